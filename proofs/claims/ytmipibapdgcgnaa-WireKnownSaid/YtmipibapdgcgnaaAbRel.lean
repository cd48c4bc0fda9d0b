/- The abstract machine: how an abstract state stands to a world. -/
import Derived.Test.YtmipibapdgcgnaaAbDef
import Derived.Laws.Sem
import Derived.Laws.World
namespace Go.Ab
open Go

/-! ### Trees -/
theorem Tree.get_leaf {α : Type} (n : Nat) : (Tree.leaf : Tree α).get n = none := by cases n <;> rfl

theorem Tree.get_node_succ {α : Type} (v : Option α) (l r : Tree α) (n : Nat) :
    (Tree.node v l r).get (n + 1) = if n % 2 = 0 then l.get (n / 2) else r.get (n / 2) := by
  simp only [Tree.get]
  cases h : Nat.beq (n % 2) 0
  · have : n % 2 ≠ 0 := fun e => by simp [e] at h
    simp [this]
  · have : n % 2 = 0 := Nat.eq_of_beq_eq_true h
    simp [this]

theorem Tree.get_putF_same {α : Type} (x : Option α) : ∀ (f n : Nat) (t : Tree α), n < f → (Tree.putF f t n x).get n = x := by
  intro f
  induction f with
  | zero => intro n t h; omega
  | succ f ih =>
    intro n t h
    cases t with
    | leaf =>
      cases n with
      | zero => rfl
      | succ n =>
        simp only [Tree.putF]
        cases hb : Nat.beq (n % 2) 0
        · have : n % 2 ≠ 0 := fun e => by simp [e] at hb
          simp only [cond_false, Tree.get_node_succ, this, if_false]
          exact ih _ _ (by omega)
        · have : n % 2 = 0 := Nat.eq_of_beq_eq_true hb
          simp only [cond_true, Tree.get_node_succ, this, if_true]
          exact ih _ _ (by omega)
    | node v l r =>
      cases n with
      | zero => rfl
      | succ n =>
        simp only [Tree.putF]
        cases hb : Nat.beq (n % 2) 0
        · have : n % 2 ≠ 0 := fun e => by simp [e] at hb
          simp only [cond_false, Tree.get_node_succ, this, if_false]
          exact ih _ _ (by omega)
        · have : n % 2 = 0 := Nat.eq_of_beq_eq_true hb
          simp only [cond_true, Tree.get_node_succ, this, if_true]
          exact ih _ _ (by omega)

theorem Tree.get_putF_ne {α : Type} (x : Option α) : ∀ (f n m : Nat) (t : Tree α), n ≠ m → (Tree.putF f t n x).get m = t.get m := by
  intro f
  induction f with
  | zero => intro n m t h; rfl
  | succ f ih =>
    intro n m t h
    cases t with
    | leaf =>
      cases n with
      | zero =>
        cases m with
        | zero => exact absurd rfl h
        | succ m => simp [Tree.putF, Tree.get_node_succ, Tree.get_leaf]
      | succ n =>
        simp only [Tree.putF]
        cases hb : Nat.beq (n % 2) 0
        · have hn : n % 2 ≠ 0 := fun e => by simp [e] at hb
          simp only [cond_false]
          cases m with
          | zero => rfl
          | succ m =>
            rw [Tree.get_node_succ]
            split
            · simp [Tree.get_leaf]
            · rw [ih _ _ _ (by omega)]; simp [Tree.get_leaf]
        · have hn : n % 2 = 0 := Nat.eq_of_beq_eq_true hb
          simp only [cond_true]
          cases m with
          | zero => rfl
          | succ m =>
            rw [Tree.get_node_succ]
            split
            · rw [ih _ _ _ (by omega)]; simp [Tree.get_leaf]
            · simp [Tree.get_leaf]
    | node v l r =>
      cases n with
      | zero =>
        cases m with
        | zero => exact absurd rfl h
        | succ m => simp [Tree.putF, Tree.get_node_succ]
      | succ n =>
        simp only [Tree.putF]
        cases hb : Nat.beq (n % 2) 0
        · have hn : n % 2 ≠ 0 := fun e => by simp [e] at hb
          simp only [cond_false]
          cases m with
          | zero => rfl
          | succ m =>
            rw [Tree.get_node_succ, Tree.get_node_succ]
            split
            · rfl
            · rw [ih _ _ _ (by omega)]
        · have hn : n % 2 = 0 := Nat.eq_of_beq_eq_true hb
          simp only [cond_true]
          cases m with
          | zero => rfl
          | succ m =>
            rw [Tree.get_node_succ, Tree.get_node_succ]
            split
            · rw [ih _ _ _ (by omega)]
            · rfl

theorem Tree.get_put_same {α : Type} (t : Tree α) (n : Nat) (x : Option α) : (t.put n x).get n = x := Tree.get_putF_same x _ _ _ (by omega)
theorem Tree.get_put_ne {α : Type} (t : Tree α) (x : Option α) {n m : Nat} (h : n ≠ m) : (t.put n x).get m = t.get m := Tree.get_putF_ne x _ _ _ _ h

/-! ### Where a block lies, and what a value is -/
structure Rn where
  blk : Nat
  delta : Nat
  lim : Nat

abbrev Ren := Nat → Rn

/-- Which numbers of blocks may be named. -/
abbrev Scope := Nat → Prop

abbrev lts (k : Nat) : Scope := fun i => i < k

/-- Where an abstract address lies. -/
def AR (ρ : Ren) (n : Scope) (a A : Addr) : Prop := n a.block ∧ a.spot = none ∧ A = ⟨(ρ a.block).blk, (ρ a.block).delta + a.off, none⟩

inductive VR (ρ : Ren) (n : Scope) : Value → Value → Prop
  | scalar {v : Value} (h : Go.Ab.scalar v = true) : VR ρ n v v
  | ptr {a A : Addr} (h : AR ρ n a A) : VR ρ n (.pointer (some a)) (.pointer (some A))
  | slice {a A : Addr} {l c : Nat} (hb : n a.block) (h : AR ρ n a A ∨ c = 0) (hl : l ≤ c) (hc : c < UNK) : VR ρ n (.slice (some a) l c) (.slice (some A) l c)
  | sliceU {a A : Addr} {l c u : Nat} (h : AR ρ n a A) (hl : l ≤ c) (hr : A.off + c * u ≤ (ρ a.block).lim) : VR ρ n (.slice (some a) l (unk u)) (.slice (some A) l c)
  | sliceZ {a A : Addr} {u : Nat} (h : n a.block) : VR ρ n (.slice (some a) 0 (unk u)) (.slice (some A) 0 0)
  | map {r R : Nat} (h : n r) (hr : (ρ r).blk = R) : VR ρ n (.map (some r)) (.map (some R))
  | func {f : FuncId} {fs gs cs ds : Array Value} (hf : fs.size = gs.size) (h1 : ∀ (i : Nat) (x y : Value), fs[i]? = some x → gs[i]? = some y → VR ρ n x y)
      (hc : cs.size = ds.size) (h2 : ∀ (i : Nat) (x y : Value), cs[i]? = some x → ds[i]? = some y → VR ρ n x y) : VR ρ n (.func (.func f) fs cs) (.func (.func f) gs ds)
  | iface {t : TypeId} {v V : Value} (h : VR ρ n v V) : VR ρ n (.iface t v) (.iface t V)
  | agg {cs ds : Array Value} (hc : cs.size = ds.size) (h : ∀ (i : Nat) (x y : Value), cs[i]? = some x → ds[i]? = some y → VR ρ n x y) : VR ρ n (.agg cs) (.agg ds)
  | tuple {cs ds : Array Value} (hc : cs.size = ds.size) (h : ∀ (i : Nat) (x y : Value), cs[i]? = some x → ds[i]? = some y → VR ρ n x y) : VR ρ n (.tuple cs) (.tuple ds)
  | junk {V : Value} (h : oneCell V = true) : VR ρ n Go.Ab.junk V

theorem AR.mono {ρ ρ' : Ren} {n n' : Scope} {a A : Addr} (h : AR ρ n a A) (hρ : ∀ i, n i → ρ' i = ρ i) (hn : ∀ i, n i → n' i) : AR ρ' n' a A :=
  ⟨hn _ h.1, h.2.1, by rw [hρ _ h.1]; exact h.2.2⟩

theorem VR.mono {ρ ρ' : Ren} {n n' : Scope} {v V : Value} (h : VR ρ n v V) (hρ : ∀ i, n i → ρ' i = ρ i) (hn : ∀ i, n i → n' i) : VR ρ' n' v V := by
  induction h with
  | scalar h => exact .scalar h
  | ptr h => exact .ptr (h.mono hρ hn)
  | slice hb h hl hc => exact .slice (hn _ hb) (h.imp (·.mono hρ hn) id) hl hc
  | sliceU h hl hr => exact .sliceU (h.mono hρ hn) hl (by rw [hρ _ h.1]; exact hr)
  | sliceZ h => exact .sliceZ (hn _ h)
  | map h hr => exact .map (hn _ h) (by rw [hρ _ h]; exact hr)
  | func hf _ hc _ i1 i2 => exact .func hf (fun i x y hx hy => i1 i x y hx hy) hc (fun i x y hx hy => i2 i x y hx hy)
  | iface _ ih => exact .iface ih
  | agg hc _ ih => exact .agg hc (fun i x y hx hy => ih i x y hx hy)
  | tuple hc _ ih => exact .tuple hc (fun i x y hx hy => ih i x y hx hy)
  | junk h => exact .junk h

theorem VR.scalar_eq {ρ : Ren} {n : Scope} {v V : Value} (hs : Go.Ab.scalar v = true) (h : VR ρ n v V) : V = v := by
  cases h <;> first | rfl | (simp [Go.Ab.scalar, Go.Ab.junk] at hs)

theorem VR.flat_eq {ρ : Ren} {n : Scope} {v V : Value} (hs : flat v = true) (h : VR ρ n v V) : V = v := by
  cases h with
  | scalar h => rfl
  | agg hc h =>
    rename_i cs ds
    congr 1
    refine Array.ext hc.symm fun i h1 h2 => ?_
    simp only [flat, List.all_eq_true] at hs
    have hx := hs cs[i] (by simp)
    exact (h i cs[i] ds[i] (by simp [h2]) (by simp [h1])).scalar_eq hx
  | iface h => rw [VR.scalar_eq hs h]
  | _ => simp [flat, Go.Ab.scalar, Go.Ab.junk] at hs

theorem VR.of_closed {ρ : Ren} {n : Scope} : ∀ {k : Nat} {v : Value}, closedN k v = true → VR ρ n v v
  | 0, v, h => .scalar h
  | k + 1, v, h => by
    have key : ∀ cs : Array Value, cs.toList.all (closedN k) = true → ∀ (i : Nat) (x y : Value), cs[i]? = some x → cs[i]? = some y → VR ρ n x y := by
      intro cs hcs i x y hx hy
      rw [hx] at hy
      cases hy
      simp only [List.all_eq_true] at hcs
      exact VR.of_closed (hcs x (Array.mem_toList_iff.2 (Array.mem_of_getElem? hx)))
    cases v with
    | agg cs => exact .agg rfl (key cs h)
    | tuple cs => exact .tuple rfl (key cs h)
    | iface t v => exact .iface (VR.of_closed h)
    | func fn fs cs =>
      cases fn with
      | func f =>
        simp only [closedN, Bool.and_eq_true] at h
        exact .func rfl (key fs h.1) rfl (key cs h.2)
      | _ => exact .scalar h
    | _ => exact .scalar h

/-! ### Heaps -/
abbrev Get := Nat → Option Blk

def own (get : Get) (id : Nat) : Prop := match get id with
  | some (.cells true _) | some (.map _ _) | some (.iter _ _) => True
  | _ => False

/-- Abstract cells, and the cells of a row. -/
def CellsR (ρ : Ren) (n : Scope) (cs : List Value) (C : Array Value) (d : Nat) : Prop :=
  ∀ (i : Nat) (v : Value), cs[i]? = some v → ∃ V, C[d + i]? = some V ∧ VR ρ n v V

def EntriesR (ρ : Ren) (n : Scope) (es : List MapEntry) (Es : Array MapEntry) : Prop :=
  es.length = Es.size ∧ ∀ (i : Nat) (e E : MapEntry), es[i]? = some e → Es[i]? = some E → e.key = E.key ∧ scalar e.key = true ∧ e.born = E.born ∧ VR ρ n e.val E.val

def BlkR (B : Nat) (ρ : Ren) (n : Scope) (w : World) (id : Nat) : Blk → Prop
  | .cells true cs => B ≤ (ρ id).blk ∧ ∃ C e fz, w.heap[(ρ id).blk]? = some (.cells C e fz) ∧ C.size = (ρ id).lim ∧ (∀ o, o < C.size → ¬ (fz.1 ≤ o ∧ o < fz.2)) ∧ CellsR ρ n cs C (ρ id).delta
  | .cells false cs => (ρ id).blk < B ∧ ∃ C e fz, w.heap[(ρ id).blk]? = some (.cells C e fz) ∧ CellsR ρ n cs C (ρ id).delta
  | .map es c => B ≤ (ρ id).blk ∧ ∃ Es, w.heap[(ρ id).blk]? = some (.map Es c) ∧ EntriesR ρ n es Es
  | .iter s p => B ≤ (ρ id).blk ∧ (ρ id).delta = 0 ∧ w.heap[(ρ id).blk]? = some (.stringIter s p)

structure HR (B G : Nat) (ρ : Ren) (n : Scope) (get : Get) (w : World) : Prop where
  blk : ∀ id b, get id = some b → BlkR B ρ n w id b
  lt : ∀ id b, get id = some b → n id
  inj : ∀ i j, own get i → own get j → (ρ i).blk = (ρ j).blk → i = j
  glob : ∀ g, g < G → (ρ g).blk = g ∧ (ρ g).delta = 0
  globs : ∀ g, g < G → n g
  base : B ≤ w.heap.size

/-- From a world that a heap describes to one that another heap describes. -/
structure Step (B G : Nat) (ρ : Ren) (n : Scope) (get : Get) (w : World) (ρ' : Ren) (n' : Scope) (get' : Get) (w' : World) : Prop where
  hr : HR B G ρ' n' get' w'
  le : ∀ i, n i → n' i
  agree : ∀ i, n i → ρ' i = ρ i
  size : w.heap.size ≤ w'.heap.size
  frame : ∀ k, k < w.heap.size → (∀ i, own get i → (ρ i).blk ≠ k) → w'.heap[k]? = w.heap[k]?
  foot : ∀ i, own get' i → (ρ' i).blk < w.heap.size → ∃ j, own get j ∧ (ρ j).blk = (ρ' i).blk
  os : w'.os = w.os
  tape : w'.tape = w.tape
  output : w'.output = w.output

theorem Step.refl {B G : Nat} {ρ : Ren} {n : Scope} {get : Get} {w : World} (h : HR B G ρ n get w) : Step B G ρ n get w ρ n get w :=
  ⟨h, fun _ h => h, fun _ _ => rfl, Nat.le_refl _, fun _ _ _ => rfl, fun i hi _ => ⟨i, hi, rfl⟩, rfl, rfl, rfl⟩

theorem Step.trans {B G : Nat} {ρ ρ1 ρ2 : Ren} {n n1 n2 : Scope} {g g1 g2 : Get} {w w1 w2 : World}
    (a : Step B G ρ n g w ρ1 n1 g1 w1) (b : Step B G ρ1 n1 g1 w1 ρ2 n2 g2 w2) : Step B G ρ n g w ρ2 n2 g2 w2 where
  hr := b.hr
  le := fun i hi => b.le i (a.le i hi)
  agree := fun i hi => (b.agree i (a.le i hi)).trans (a.agree i hi)
  size := Nat.le_trans a.size b.size
  frame := fun k hk hf => by
    rw [b.frame k (Nat.lt_of_lt_of_le hk a.size) (fun i hi e => ?_), a.frame k hk hf]
    obtain ⟨j, hj, hje⟩ := a.foot i hi (by rw [e]; exact hk)
    exact hf j hj (hje.trans e)
  foot := fun i hi hlt => by
    obtain ⟨j, hj, hje⟩ := b.foot i hi (Nat.lt_of_lt_of_le hlt a.size)
    obtain ⟨k, hk, hke⟩ := a.foot j hj (by rw [hje]; exact hlt)
    exact ⟨k, hk, hke.trans hje⟩
  os := b.os.trans a.os
  tape := b.tape.trans a.tape
  output := b.output.trans a.output

/-- Everything below the base is as it was. -/
theorem Step.below {B G : Nat} {ρ ρ' : Ren} {n n' : Scope} {g g' : Get} {w w' : World} (hr : HR B G ρ n g w) (s : Step B G ρ n g w ρ' n' g' w') (k : Nat) (hk : k < B) : w'.heap[k]? = w.heap[k]? := by
  refine s.frame k (Nat.lt_of_lt_of_le hk hr.base) fun i hi e => ?_
  have : B ≤ (ρ i).blk := by
    unfold own at hi
    split at hi <;> try exact hi.elim
    all_goals (rename_i hb; exact (hr.blk _ _ hb).1)
  omega

/-! ### Frames -/
def DefR (ρ : Ren) (n : Scope) (d D : Deferred) : Prop :=
  ∃ k cap Cap, d.target = .fn (.func k) cap ∧ D.target = .fn (.func k) Cap ∧ cap.size = Cap.size ∧ (∀ (i : Nat) (x y : Value), cap[i]? = some x → Cap[i]? = some y → VR ρ n x y) ∧
    d.args.size = D.args.size ∧ ∀ (i : Nat) (x y : Value), d.args[i]? = some x → D.args[i]? = some y → VR ρ n x y

inductive DefsR (ρ : Ren) (n : Scope) : List Deferred → List Deferred → Prop
  | nil : DefsR ρ n [] []
  | cons {d D ds Ds} : DefR ρ n d D → DefsR ρ n ds Ds → DefsR ρ n (d :: ds) (D :: Ds)

structure FR (ρ : Ren) (n : Scope) (fr : Fr) (a : Act) : Prop where
  tmps : ∀ t, VR ρ n (fr.get t) (a.tmps.getD t undef)
  size : a.tmps.size = fr.n
  defs : DefsR ρ n fr.df a.defers

end Go.Ab
