/- The abstract machine: a region that draws its order. -/
import Derived.Test.YtmipibapdgcgnaaAbCode
import Derived.Orders
namespace Go.Ab
open Go

/-! ### What is asked of a region's order, by its text -/
def bf (M : List Nat) (i j : Nat) : Bool := Nat.testBit (M.getD j 0) i

def isA : Cls → Bool
  | .a => true
  | _ => false
def isR : Cls → Bool
  | .r => true
  | _ => false
def isE : Cls → Bool
  | .e | .call => true
  | _ => false
def clsOk : Cls → Bool
  | .bad | .defer => false
  | _ => true

def pairOk (P : Program) (ops : Array Oper) (M : List Nat) (i j : Nat) : Bool :=
  !bf M j i && (bf M i j || match ops[i]?, ops[j]? with
    | some x, some y => Oper.apart ops x y && !(isE (clsOf P x) && isE (clsOf P y)) && !(isA (clsOf P x) && isE (clsOf P y)) && !(isE (clsOf P x) && isR (clsOf P y)) && !(isA (clsOf P x) && isR (clsOf P y))
    | _, _ => false)

def pairsOk (P : Program) (ops : Array Oper) (M : List Nat) : List Nat → Bool
  | [] => true
  | i :: rest => rest.all (fun j => pairOk P ops M i j) && pairsOk P ops M rest

def noDup : List Nat → Bool
  | [] => true
  | i :: rest => rest.all (fun j => !Nat.beq i j) && noDup rest

def maskOk (ops : Array Oper) (M : List Nat) (n j : Nat) : Bool :=
  match ops[j]? with
  | some o => !bf M j j && (o.after.toList.all fun e => !Region.binds .any e || (bf M e.on j && Nat.blt e.on n)) &&
      (List.range n).all fun i => !bf M i j || o.after.toList.any fun e => Region.binds .any e && (Nat.beq e.on i || bf M i e.on)
  | none => false

def noSel (o : Oper) : Bool := match o.op with
  | .select _ _ => false
  | _ => true

def regOkB (P : Program) (ops : Array Oper) (g : Reg) : Bool :=
  Nat.beq g.order.length ops.size && noDup g.order && (g.order.all fun i => Nat.blt i ops.size) && ((List.range ops.size).all fun i => g.order.contains i) && pairsOk P ops g.before g.order &&
  ((List.range ops.size).all fun j => maskOk ops g.before ops.size j) && ops.toList.all fun o => clsOk (clsOf P o) && noSel o

theorem noDup_spec : ∀ {l : List Nat}, noDup l = true → l.Nodup
  | [], _ => List.nodup_nil
  | i :: l, h => by
    simp only [noDup, Bool.and_eq_true, List.all_eq_true, Bool.not_eq_true'] at h
    refine List.nodup_cons.2 ⟨fun hm => ?_, noDup_spec h.2⟩
    have := h.1 i hm
    simp at this

theorem pairsOk_spec {P : Program} {ops : Array Oper} {M : List Nat} : ∀ {l : List Nat}, pairsOk P ops M l = true → ∀ (p q i j : Nat), p < q → l[p]? = some i → l[q]? = some j → pairOk P ops M i j = true
  | [], _, p, q, i, j, _, hi, _ => by simp at hi
  | x :: l, h, p, q, i, j, hpq, hi, hj => by
    simp only [pairsOk, Bool.and_eq_true, List.all_eq_true] at h
    cases q with
    | zero => omega
    | succ q =>
      have hj : l[q]? = some j := by simpa using hj
      cases p with
      | zero =>
        have : x = i := by simpa using hi
        subst this
        exact h.1 j (List.mem_of_getElem? hj)
      | succ p => exact pairsOk_spec h.2 p q i j (by omega) (by simpa using hi) hj

/-! ### Narrowing -/
section
variable {P : Program} {ρ ρ' ρ1 : Ren} {n n' S S1 : Scope} {B B1 G : Nat} {get get' : Get} {w w' w1 : World}

/-- Of a value that holds no address nothing is asked of the scope. -/
theorem VR.closed_any : ∀ {k : Nat} {v V : Value}, closedN k v = true → VR ρ S v V → VR ρ1 S1 v V
  | 0, v, V, hc, h => by rw [h.scalar_eq hc]; exact .scalar hc
  | k + 1, v, V, hc, h => by
    cases h with
    | scalar h => exact .scalar h
    | iface h => exact .iface (VR.closed_any (k := k) hc h)
    | agg hs hh => exact .agg hs fun i x y hx hy => VR.closed_any (k := k) (by simp only [closedN, List.all_eq_true] at hc; exact hc x (Array.mem_toList_iff.2 (Array.mem_of_getElem? hx))) (hh i x y hx hy)
    | tuple hs hh => exact .tuple hs fun i x y hx hy => VR.closed_any (k := k) (by simp only [closedN, List.all_eq_true] at hc; exact hc x (Array.mem_toList_iff.2 (Array.mem_of_getElem? hx))) (hh i x y hx hy)
    | func hf h1 hs h2 =>
      simp only [closedN, Bool.and_eq_true, List.all_eq_true] at hc
      exact .func hf (fun i x y hx hy => VR.closed_any (k := k) (hc.1 x (Array.mem_toList_iff.2 (Array.mem_of_getElem? hx))) (h1 i x y hx hy)) hs (fun i x y hx hy => VR.closed_any (k := k) (hc.2 x (Array.mem_toList_iff.2 (Array.mem_of_getElem? hx))) (h2 i x y hx hy))
    | junk h => exact .junk h
    | ptr h => simp [closedN, Go.Ab.scalar] at hc
    | slice a b c d => simp [closedN, Go.Ab.scalar] at hc
    | sliceU a b c => simp [closedN, Go.Ab.scalar] at hc
    | sliceZ a => simp [closedN, Go.Ab.scalar] at hc
    | map a b => simp [closedN, Go.Ab.scalar] at hc

theorem VR.narrow {v V V1 : Value} (h : VR ρ S v V) (h1 : VR ρ1 S1 v V1) : VR ρ S1 v V := by
  induction h generalizing V1 with
  | scalar h => exact .scalar h
  | ptr h => obtain ⟨_, _, h2⟩ := h1.ptr_inv; exact .ptr ⟨h2.1, h.2.1, h.2.2⟩
  | slice hb h hl hc => obtain ⟨hs, _⟩ := h1.slice_any; exact .slice hs (h.imp (fun h => ⟨hs, h.2.1, h.2.2⟩) id) hl hc
  | sliceU h hl hr => obtain ⟨hs, _⟩ := h1.slice_any; exact .sliceU ⟨hs, h.2.1, h.2.2⟩ hl hr
  | sliceZ h => obtain ⟨hs, _⟩ := h1.slice_any; exact .sliceZ hs
  | map h hr => obtain ⟨_, hs⟩ := h1.map_inv; exact .map hs hr
  | func hf _ hc _ i1 i2 =>
    obtain ⟨gs, ds, _, a, b⟩ := h1.func_inv
    exact .func hf (fun i x y hx hy => by obtain ⟨z, _, hz⟩ := a.get hx; exact i1 i x y hx hy hz) hc (fun i x y hx hy => by obtain ⟨z, _, hz⟩ := b.get hx; exact i2 i x y hx hy hz)
  | iface _ ih => obtain ⟨_, _, a⟩ := h1.iface_inv; exact .iface (ih a)
  | agg hc _ ih => obtain ⟨ds, _, a⟩ := h1.agg_inv; exact .agg hc (fun i x y hx hy => by obtain ⟨z, _, hz⟩ := a.get hx; exact ih i x y hx hy hz)
  | @tuple cs ds hc hh ih =>
    generalize hv : Value.tuple cs = v at h1
    cases h1 with
    | scalar h => subst hv; simp [Go.Ab.scalar] at h
    | tuple hc1 hh1 =>
      cases hv
      exact .tuple hc (fun i x y hx hy => by
        rename_i es
        obtain ⟨z, _, hz⟩ := VRs.get ⟨hc1, hh1⟩ hx
        exact ih i x y hx hy hz)
    | junk h =>
      have hcl : closedN 3 (Value.tuple cs) = true := by rw [hv]; rfl
      rw [← hv]
      exact VR.closed_any hcl (.tuple (ρ := ρ) (n := S) hc hh)
    | _ => cases hv
  | junk h => exact .junk h

theorem VRs.narrow {cs ds es : Array Value} (h : VRs ρ S cs ds) (h1 : VRs ρ1 S1 cs es) : VRs ρ S1 cs ds :=
  ⟨h.1, fun i x y hx hy => by obtain ⟨z, _, hz⟩ := h1.get hx; exact (h.2 i x y hx hy).narrow hz⟩

theorem BlkR.narrow {id : Nat} {b : Blk} (h : BlkR B ρ S w id b) (h1 : BlkR B1 ρ1 S1 w1 id b) : BlkR B ρ S1 w id b := by
  have hc : ∀ {cs : List Value} {C C1 : Array Value} {d d1 : Nat}, CellsR ρ S cs C d → CellsR ρ1 S1 cs C1 d1 → CellsR ρ S1 cs C d := fun a b i v hv => by
    obtain ⟨V, h1, h2⟩ := a i v hv
    obtain ⟨_, _, h3⟩ := b i v hv
    exact ⟨V, h1, h2.narrow h3⟩
  cases b with
  | cells o cs =>
    cases o with
    | true => obtain ⟨h0, C, e, fz, a, b, c, d⟩ := h; obtain ⟨_, C1, _, _, _, _, _, d1⟩ := h1; exact ⟨h0, C, e, fz, a, b, c, hc d d1⟩
    | false => obtain ⟨h0, C, e, fz, a, d⟩ := h; obtain ⟨_, C1, _, _, _, d1⟩ := h1; exact ⟨h0, C, e, fz, a, hc d d1⟩
  | map es c =>
    obtain ⟨h0, Es, a, b⟩ := h
    obtain ⟨_, Es1, _, b1⟩ := h1
    refine ⟨h0, Es, a, b.1, fun i e E he hE => ?_⟩
    obtain ⟨q1, q2, q3, q4⟩ := b.2 i e E he hE
    have hi : i < Es1.size := by rw [← b1.1]; exact (List.getElem?_eq_some_iff.1 he).1
    obtain ⟨_, _, _, r4⟩ := b1.2 i e Es1[i] he (by simp [hi])
    exact ⟨q1, q2, q3, q4.narrow r4⟩
  | iter s p => exact h

/-- A part of what a heap says, in a narrower scope. -/
theorem HR.narrow (hr : HR B G ρ S get w) (hsub : ∀ id b, get' id = some b → get id = some b) (h1 : HR B1 G ρ1 S1 get' w1) : HR B G ρ S1 get' w where
  blk := fun id b hb => (hr.blk id b (hsub id b hb)).narrow (h1.blk id b hb)
  lt := h1.lt
  inj := fun i j hi hj he => by
    obtain ⟨a, ha, ha'⟩ := own_iff.1 hi
    obtain ⟨b, hb, hb'⟩ := own_iff.1 hj
    exact hr.inj i j (own_iff.2 ⟨a, hsub _ _ ha, ha'⟩) (own_iff.2 ⟨b, hsub _ _ hb, hb'⟩) he
  glob := hr.glob
  globs := h1.globs
  base := hr.base

theorem HR.sub (hr : HR B G ρ S get w) (hsub : ∀ id b, get' id = some b → get id = some b) : HR B G ρ S get' w where
  blk := fun id b hb => hr.blk id b (hsub id b hb)
  lt := fun id b hb => hr.lt id b (hsub id b hb)
  inj := fun i j hi hj he => by
    obtain ⟨a, ha, ha'⟩ := own_iff.1 hi
    obtain ⟨b, hb, hb'⟩ := own_iff.1 hj
    exact hr.inj i j (own_iff.2 ⟨a, hsub _ _ ha, ha'⟩) (own_iff.2 ⟨b, hsub _ _ hb, hb'⟩) he
  glob := hr.glob
  globs := hr.globs
  base := hr.base

theorem own_sub (hsub : ∀ id b, get' id = some b → get id = some b) {i : Nat} (h : own get' i) : own get i := by
  obtain ⟨a, ha, ha'⟩ := own_iff.1 h
  exact own_iff.2 ⟨a, hsub _ _ ha, ha'⟩

/-- Reading from more. -/
theorem rOp_mono {ev : Operand → Value} {o : Oper} {v : Value} (hsub : ∀ id b, get id = some b → get' id = some b) (h : rOp P ev get o = some v) : rOp P ev get' o = some v := by
  have hcell : ∀ a v, cellAt get a = some v → cellAt get' a = some v := fun a v h => by
    unfold cellAt at *
    split at h
    · rename_i hg; rw [hsub _ _ hg]; exact h
    · cases h
  have hcells : ∀ a n v, cellsAt get a n = some v → cellsAt get' a n = some v := fun a n v h => by
    unfold cellsAt at *
    split at h
    · rename_i hg; rw [hsub _ _ hg]; exact h
    · cases h
  obtain ⟨dst, op, type, pos, after, guard⟩ := o
  cases op <;> simp only [rOp] at h ⊢ <;> (try (cases h; done))
  case load t x =>
    split at h
    · simp only [Option.bind_eq_some_iff, Option.map_eq_some_iff] at h
      obtain ⟨m, hm, l, hl, rfl⟩ := h
      simp only [hm, Option.bind_some, hcells _ _ _ hl, Option.map_some]
    · exact hcell _ _ h
    · cases h
  case convert src dst x =>
    split at h
    · split at h
      · exact h
      · cases h
    · split at h
      · simp only [Option.bind_eq_some_iff, Option.map_eq_some_iff] at h
        obtain ⟨l, hl, b, hb, rfl⟩ := h
        simp only [hcells _ _ _ hl, Option.bind_some, hb, Option.map_some]
      · cases h
    · cases h
  case lookup t x i ok =>
    split at h
    · exact h
    · split at h
      · rename_i hk
        rw [if_pos hk]
        split at h
        · rename_i es c kd hg hu
          rw [hsub _ _ hg]
          simp only [hu]
          exact h
        · cases h
      · cases h
    · cases h
  case call c =>
    obtain ⟨callee, args, argTypes⟩ := c
    cases callee with
    | value f => simp at h
    | invoke r m => simp at h
    | builtin b =>
      cases b <;> simp only at h ⊢ <;> (try (cases h; done))
      case len =>
        split at h
        · split at h
          · rename_i hg; rw [hsub _ _ hg]; exact h
          · cases h
        · cases h

/-! ### One operation of such a region: its answer is one -/
def OpA (P : Program) (G : Nat) (o : Oper) (fr : Fr) (h : Heap) (v : Value) (h' : Heap) : Prop :=
  match clsOf P o with
  | .p => pOp P fr.ev o = some v ∧ h' = h
  | .r => rOp P fr.ev h.get o = some v ∧ h' = h
  | .a => ∃ b f, aOp P fr.ev o = some (b, f) ∧ v = f h.next ∧ h' = h.alloc b
  | .e => eOp P fr.ev o h = some (v, h')
  | .call => ∃ k args, callOf fr.ev o = some (k, args) ∧ CallT P G k args h fun v1 h1 => v1 = v ∧ h1 = h'
  | _ => False

/-- An effect, in the world. -/
theorem OpA.eff {o : Oper} {fr : Fr} {h h' : Heap} {v : Value} {a : Act} {next : Act → World → Prop} {Q : Exit → Act → World → Prop} (ho : OpA P G o fr h v h') (he : isE (clsOf P o) = true)
    (hv : ∀ x ∈ o.op.operands, VR ρ (lts h.next) (fr.ev x) (a.eval x)) (hr : HR B G ρ (lts h.next) h.get w)
    (hn : ∀ V w' ρ', Step B G ρ (lts h.next) h.get w ρ' (lts h'.next) h'.get w' → VR ρ' (lts h'.next) v V → next (a.put o.dst V) w') : o.wp P a w next Q := by
  unfold Oper.wp
  unfold OpA at ho
  cases hc : clsOf P o <;> rw [hc] at ho he <;> simp only [isE, Bool.false_eq_true] at he ho
  case e =>
    obtain ⟨nx, w', ρ', V, h3, h4, h5, h6⟩ := eOp_sound (EV := a.eval) hr hv ho
    rw [h3]
    rcases h4 with rfl | ⟨rfl, rfl⟩
    · exact hn _ _ _ h5 h6
    · exact hn _ _ _ h5 h6
  case call =>
    obtain ⟨k, args, h1, h2⟩ := ho
    obtain ⟨Args, h3, h4⟩ := callOf_rel (P := P) (EV := a.eval) hv h1
    rw [h4]
    rcases h2 B ρ w Args h3 hr with ⟨V, w', ρ', v, h', e1, e2, e3, rfl, rfl⟩ | ⟨e0, e1⟩
    · rw [e1]
      exact hn _ _ _ e2 e3
    · rw [e0]
      refine e1.mono fun e w' ⟨V, ρ', v, h', q1, q2, q3, q4, q5⟩ => ?_
      subst q1; subst q4; subst q5
      exact hn _ _ _ q2 q3

theorem OpA.opT {o : Oper} {fr : Fr} {h h' : Heap} {v : Value} (ho : OpA P G o fr h v h') : OpT P G o (fun fr1 h1 => fr1 = fr.put o.dst v ∧ h1 = h') fr h := by
  unfold OpA at ho
  unfold OpT
  cases hc : clsOf P o <;> rw [hc] at ho <;> simp only at ho ⊢
  · exact ⟨v, ho.1, rfl, ho.2.symm⟩
  · exact ⟨v, ho.1, rfl, ho.2.symm⟩
  · obtain ⟨b, f, h1, rfl, rfl⟩ := ho; exact ⟨b, f, h1, rfl, rfl⟩
  · exact ⟨v, h', ho, rfl, rfl⟩
  · obtain ⟨k, args, h1, h2⟩ := ho
    exact ⟨k, args, h1, h2.mono fun _ _ ⟨a, b⟩ => ⟨by rw [a], b⟩⟩

/-- There is a world in which it has been done. -/
theorem OpT.exists {o : Oper} {fr : Fr} {h : Heap} {K : Fr → Heap → Prop} {a : Act} (ho : OpT P G o K fr h) (hf : FR ρ (lts h.next) fr a) (hr : HR B G ρ (lts h.next) h.get w) (hwf : wfOper G fr.n o = true) :
    ∃ fr' h' ρ' a' w', K fr' h' ∧ FR ρ' (lts h'.next) fr' a' ∧ Step B G ρ (lts h.next) h.get w ρ' (lts h'.next) h'.get w' := by
  have := ho.wp (a := a) (next := fun _ _ => ∃ fr' h' ρ' a' w', K fr' h' ∧ FR ρ' (lts h'.next) fr' a' ∧ Step B G ρ (lts h.next) h.get w ρ' (lts h'.next) h'.get w') (Q := fun _ _ _ => False) hf hr hwf
    fun fr' h' a' w' ρ' h1 h2 h3 => ⟨fr', h', ρ', a', w', h1, h2, h3⟩
  unfold Oper.wp at this
  generalize (execOp a.eval o).run P w = r at this
  cases r with
  | ok nx w' =>
    cases nx <;> simp only [Oper.upon] at this
    · exact this
    · exact this
    · obtain ⟨e, w'', fr, hR, _⟩ := this []
      cases e with
      | returned v => exact hR
      | panicked c => exact hR.elim
      | outgrown => obtain ⟨_, _, hf⟩ := hR; exact hf.elim
    · exact this
    · obtain ⟨v, w'', hR, _⟩ := this default []
      exact hR
  | halt x w' => cases x <;> simp only [Oper.upon] at this

end

end Go.Ab
