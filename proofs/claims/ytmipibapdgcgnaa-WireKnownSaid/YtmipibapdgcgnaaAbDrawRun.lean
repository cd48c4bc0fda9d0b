/- The abstract machine: a region that draws its order, run in one order, is run in all. -/
import Derived.Test.YtmipibapdgcgnaaAbDraw
namespace Go.Ab
open Go

/-- A run of a region in one order. -/
structure Ctx (P : Program) (G N : Nat) (ops : Array Oper) (M : List Nat) where
  ix : Nat → Nat
  oo : Nat → Oper
  frs : Nat → Fr
  hs : Nat → Heap
  ws : Nat → Bool
  vs : Nat → Value
  lt : ∀ p, p < ops.size → ix p < ops.size
  inj : ∀ p q, p < ops.size → q < ops.size → ix p = ix q → p = q
  surj : ∀ i, i < ops.size → ∃ p, p < ops.size ∧ ix p = i
  hoo : ∀ p, p < ops.size → ops[ix p]? = some (oo p)
  pair : ∀ p q, p < q → q < ops.size → bf M (ix q) (ix p) = false ∧ (bf M (ix p) (ix q) = true ∨ (Oper.apart ops (oo p) (oo q) = true ∧ ¬ (isE (clsOf P (oo p)) = true ∧ isE (clsOf P (oo q)) = true) ∧
    ¬ (isA (clsOf P (oo p)) = true ∧ isE (clsOf P (oo q)) = true) ∧ ¬ (isE (clsOf P (oo p)) = true ∧ isR (clsOf P (oo q)) = true) ∧ ¬ (isA (clsOf P (oo p)) = true ∧ isR (clsOf P (oo q)) = true)))
  irr : ∀ q, q < ops.size → bf M (ix q) (ix q) = false
  mask : ∀ q, q < ops.size → (∀ e ∈ (oo q).after, Region.binds .any e = true → bf M e.on (ix q) = true ∧ e.on < ops.size) ∧
    ∀ i, i < ops.size → bf M i (ix q) = true → ∃ e ∈ (oo q).after, Region.binds .any e = true ∧ (e.on = i ∨ bf M i e.on = true)
  wf : ∀ p, p < ops.size → wfOper G N (oo p) = true
  n0 : (frs 0).n = N
  want : ∀ p, p < ops.size → wantedA ops (frs p) (oo p) = some (ws p)
  fr1 : ∀ p, p < ops.size → frs (p + 1) = (frs p).put (oo p).dst (vs p)
  yes : ∀ p, p < ops.size → ws p = true → OpA P G (oo p) (frs p) (hs p) (vs p) (hs (p + 1))
  no : ∀ p, p < ops.size → ws p = false → vs p = undef ∧ hs (p + 1) = hs p
  pend : ∀ p q, p < q → q < ops.size → isR (clsOf P (oo p)) = true → isE (clsOf P (oo q)) = true → ws p = true → ws q = true → bf M (ix p) (ix q) = false → rOp P (frs p).ev (hs (q + 1)).get (oo p) = some (vs p)

namespace Ctx
section
variable {P : Program} {G N : Nat} {ops : Array Oper} {M : List Nat} (C : Ctx P G N ops M)

def A (p : Nat) : Bool := isA (clsOf P (C.oo p))
def R (p : Nat) : Bool := isR (clsOf P (C.oo p))
def E (p : Nat) : Bool := isE (clsOf P (C.oo p))
def dn (l : Array Bool) (p : Nat) : Bool := l.getD (C.ix p) false
def bk (p : Nat) : Blk := match aOp P (C.frs p).ev (C.oo p) with
  | some r => r.1
  | none => .iter .empty 0

theorem frN : ∀ p, p ≤ ops.size → (C.frs p).n = N
  | 0, _ => C.n0
  | p + 1, h => by rw [C.fr1 p (by omega), FR.n_put]; exact frN p (by omega)

theorem dst_lt {p : Nat} (hp : p < ops.size) {d : Nat} (hd : (C.oo p).dst = some d) : d < N := by
  have := C.wf p hp
  simp only [wfOper, Bool.and_eq_true] at this
  have := this.2
  rw [hd] at this
  exact blt_iff.1 this

theorem defs : ∀ p, p ≤ ops.size → (C.frs p).df = (C.frs 0).df
  | 0, _ => rfl
  | p + 1, h => by
    rw [C.fr1 p (by omega)]
    rw [← defs p (by omega)]
    cases (C.oo p).dst <;> rfl

/-! ### Temporaries -/
def lastW (sel : Nat → Bool) (t : Nat) : Nat → Value
  | 0 => (C.frs 0).get t
  | k + 1 => if sel k = true ∧ (C.oo k).dst = some t then C.vs k else lastW sel t k

theorem lastW_all (t : Nat) : ∀ p, p ≤ ops.size → C.lastW (fun _ => true) t p = (C.frs p).get t
  | 0, _ => rfl
  | p + 1, h => by
    rw [lastW, C.fr1 p (by omega)]
    cases hd : (C.oo p).dst with
    | none => simp only [Fr.put]; rw [if_neg (by simp)]; exact lastW_all t p (by omega)
    | some d =>
      simp only [Fr.put]
      by_cases e : d = t
      · subst e; rw [if_pos (by simp), Fr.get_set_same]
      · rw [if_neg (by simp [e]), Fr.get_set_ne _ _ e]; exact lastW_all t p (by omega)

theorem lastW_congr {sel sel' : Nat → Bool} {t : Nat} : ∀ k, (∀ q, q < k → (C.oo q).dst = some t → sel q = sel' q) → C.lastW sel t k = C.lastW sel' t k
  | 0, _ => rfl
  | k + 1, h => by
    rw [lastW, lastW, lastW_congr k fun q hq hd => h q (by omega) hd]
    by_cases hd : (C.oo k).dst = some t
    · rw [h k (by omega) hd]
    · simp [hd]

theorem lastW_below {t p : Nat} : ∀ k, p ≤ k → C.lastW (fun q => decide (q < p)) t k = C.lastW (fun _ => true) t p
  | 0, h => by have : p = 0 := by omega
               subst this; rfl
  | k + 1, h => by
    by_cases e : p = k + 1
    · subst e
      refine C.lastW_congr _ fun q hq _ => by simp [hq]
    · rw [lastW, if_neg (by simp; omega)]
      exact lastW_below k (by omega)

theorem lastW_cut {sel : Nat → Bool} {t p : Nat} (hp : p ≤ ops.size) (h : ∀ q, q < ops.size → (C.oo q).dst = some t → (sel q = true ↔ q < p)) : C.lastW sel t ops.size = (C.frs p).get t := by
  rw [C.lastW_congr (sel' := fun q => decide (q < p)) ops.size, C.lastW_below _ hp, C.lastW_all t p hp]
  intro q hq hd
  have := h q hq hd
  cases hs : sel q <;> simp_all

theorem lastW_last {sel : Nat → Bool} {t q : Nat} (hs : sel q = true) (hd : (C.oo q).dst = some t) : ∀ k, q < k → (∀ p, q < p → p < k → (C.oo p).dst = some t → sel p = false) → C.lastW sel t k = C.vs q
  | 0, h, _ => by omega
  | k + 1, h, hl => by
    rw [lastW]
    by_cases e : q = k
    · subst e; rw [if_pos ⟨hs, hd⟩]
    · rw [if_neg (fun ⟨h1, h2⟩ => by rw [hl k (by omega) (by omega) h2] at h1; cases h1)]
      exact lastW_last hs hd k (by omega) fun p h1 h2 => hl p h1 (by omega)

/-! ### Heaps -/
variable {B : Nat} {ρ0 : Ren} {a0 : Act} {w0 : World}

theorem wit (hf : FR ρ0 (lts (C.hs 0).next) (C.frs 0) a0) (hr : HR B G ρ0 (lts (C.hs 0).next) (C.hs 0).get w0) : ∀ p, p ≤ ops.size → ∃ ρ a w, FR ρ (lts (C.hs p).next) (C.frs p) a ∧ HR B G ρ (lts (C.hs p).next) (C.hs p).get w ∧
    (p < ops.size → (C.hs p).next ≤ (C.hs (p + 1)).next)
  | 0, h => by
    refine ⟨ρ0, a0, w0, hf, hr, fun hp => ?_⟩
    cases hw : C.ws 0 with
    | false => rw [(C.no 0 hp hw).2]; exact Nat.le_refl _
    | true =>
      obtain ⟨fr', h', ρ', a', w', ⟨rfl, rfl⟩, _, st⟩ := ((C.yes 0 hp hw).opT).exists hf hr (by rw [C.n0]; exact C.wf 0 hp)
      rcases Nat.lt_or_ge (C.hs (0 + 1)).next (C.hs 0).next with hlt | hge
      · have := st.le (C.hs (0 + 1)).next hlt; exact absurd this (Nat.lt_irrefl _)
      · exact hge
  | p + 1, h => by
    obtain ⟨ρ, a, w, hf1, hr1, _⟩ := wit hf hr p (by omega)
    have hp : p < ops.size := by omega
    have key : ∃ ρ a w, FR ρ (lts (C.hs (p + 1)).next) (C.frs (p + 1)) a ∧ HR B G ρ (lts (C.hs (p + 1)).next) (C.hs (p + 1)).get w := by
      cases hw : C.ws p with
      | false =>
        obtain ⟨hv, hh⟩ := C.no p hp hw
        rw [C.fr1 p hp, hh, hv]
        exact ⟨ρ, _, w, hf1.put .undef (fun d hd => by rw [C.frN p (by omega)]; exact C.dst_lt hp hd), hr1⟩
      | true =>
        obtain ⟨fr', h', ρ', a', w', ⟨rfl, rfl⟩, hf2, st⟩ := ((C.yes p hp hw).opT).exists hf1 hr1 (by rw [C.frN p (by omega)]; exact C.wf p hp)
        rw [C.fr1 p hp]
        exact ⟨ρ', a', w', hf2, st.hr⟩
    obtain ⟨ρ2, a2, w2, hf2, hr2⟩ := key
    refine ⟨ρ2, a2, w2, hf2, hr2, fun hp2 => ?_⟩
    cases hw : C.ws (p + 1) with
    | false => rw [(C.no (p + 1) hp2 hw).2]; exact Nat.le_refl _
    | true =>
      obtain ⟨fr', h', ρ', a', w', ⟨rfl, rfl⟩, _, st⟩ := ((C.yes (p + 1) hp2 hw).opT).exists hf2 hr2 (by rw [C.frN (p + 1) (by omega)]; exact C.wf (p + 1) hp2)
      rcases Nat.lt_or_ge (C.hs (p + 1 + 1)).next (C.hs (p + 1)).next with hlt | hge
      · have := st.le (C.hs (p + 1 + 1)).next hlt; exact absurd this (Nat.lt_irrefl _)
      · exact hge

/-- What is known of the run's heaps. -/
structure Heaps : Prop where
  mono : ∀ p, p < ops.size → (C.hs p).next ≤ (C.hs (p + 1)).next
  low : ∀ p id b, p ≤ ops.size → (C.hs p).get id = some b → id < (C.hs p).next

theorem heaps (hf : FR ρ0 (lts (C.hs 0).next) (C.frs 0) a0) (hr : HR B G ρ0 (lts (C.hs 0).next) (C.hs 0).get w0) : C.Heaps where
  mono := fun p hp => let ⟨_, _, _, _, _, h⟩ := C.wit hf hr p (by omega); h hp
  low := fun p id b hp hb => let ⟨_, _, _, _, h, _⟩ := C.wit hf hr p hp; h.lt id b hb

theorem Heaps.le (H : C.Heaps) {p : Nat} : ∀ q, p ≤ q → q ≤ ops.size → (C.hs p).next ≤ (C.hs q).next
  | 0, h, _ => by have : p = 0 := by omega
                  subst this; exact Nat.le_refl _
  | q + 1, h, hq => by
    by_cases e : p = q + 1
    · subst e; exact Nat.le_refl _
    · exact Nat.le_trans (Heaps.le H q (by omega) (by omega)) (H.mono q (by omega))

/-- A block that an operation makes. -/
theorem made {p : Nat} (hp : p < ops.size) (ha : C.A p = true) (hw : C.ws p = true) :
    ∃ f, aOp P (C.frs p).ev (C.oo p) = some (C.bk p, f) ∧ C.vs p = f (C.hs p).next ∧ C.hs (p + 1) = (C.hs p).alloc (C.bk p) := by
  have := C.yes p hp hw
  unfold OpA at this
  unfold A at ha
  cases hc : clsOf P (C.oo p) <;> rw [hc] at this ha <;> simp only [isA, Bool.false_eq_true] at ha this
  obtain ⟨b, f, h1, h2, h3⟩ := this
  have : C.bk p = b := by unfold bk; rw [h1]
  rw [this]
  exact ⟨f, h1, h2, h3⟩

/-- What leaves the heap as it is. -/
theorem still {p : Nat} (hp : p < ops.size) (ha : C.A p = true → C.ws p = false) (he : C.E p = true → C.ws p = false) : C.hs (p + 1) = C.hs p := by
  cases hw : C.ws p with
  | false => exact (C.no p hp hw).2
  | true =>
    have := C.yes p hp hw
    unfold OpA at this
    unfold A at ha
    unfold E at he
    cases hc : clsOf P (C.oo p) <;> rw [hc] at this ha he <;> simp only [isA, isE] at ha he this
    · exact this.2
    · exact this.2
    · rw [ha trivial] at hw; cases hw
    · rw [he trivial] at hw; cases hw
    · rw [he trivial] at hw; cases hw

theorem uniq (H : C.Heaps) {p q : Nat} (hp : p < ops.size) (hq : q < ops.size) (hap : C.A p = true) (haq : C.A q = true) (hwp : C.ws p = true) (hwq : C.ws q = true) (he : (C.hs p).next = (C.hs q).next) : p = q := by
  rcases Nat.lt_trichotomy p q with h | h | h
  · obtain ⟨_, _, _, h3⟩ := C.made hp hap hwp
    have := Heaps.le C H q (p := p + 1) (by omega) (by omega)
    rw [h3] at this; simp at this; omega
  · exact h
  · obtain ⟨_, _, _, h3⟩ := C.made hq haq hwq
    have := Heaps.le C H p (p := q + 1) (by omega) (by omega)
    rw [h3] at this; simp at this; omega

/-- Between two places without an effect. -/
theorem between (H : C.Heaps) {b : Nat} : ∀ k, b ≤ k → k ≤ ops.size → (∀ p, b ≤ p → p < k → C.E p = true → C.ws p = false) →
    (∀ id, id < (C.hs k).next ↔ id < (C.hs b).next ∨ ∃ p, b ≤ p ∧ p < k ∧ C.A p = true ∧ C.ws p = true ∧ id = (C.hs p).next) ∧
    (∀ id x, (C.hs k).get id = some x → (id < (C.hs b).next ∧ (C.hs b).get id = some x) ∨ ∃ p, b ≤ p ∧ p < k ∧ C.A p = true ∧ C.ws p = true ∧ id = (C.hs p).next ∧ x = C.bk p) ∧
    (∀ id, id < (C.hs b).next → (C.hs k).get id = (C.hs b).get id)
  | 0, hb, _, _ => by
    have : b = 0 := by omega
    subst this
    exact ⟨fun id => ⟨.inl, fun h => h.elim (fun h => h) fun ⟨p, _, h, _⟩ => by omega⟩, fun id x hx => .inl ⟨H.low 0 id x (by omega) hx, hx⟩, fun _ _ => rfl⟩
  | k + 1, hb, hk, hE => by
    by_cases e : b = k + 1
    · subst e
      exact ⟨fun id => ⟨.inl, fun h => h.elim (fun h => h) fun ⟨p, _, h, _⟩ => by omega⟩, fun id x hx => .inl ⟨H.low (k + 1) id x (by omega) hx, hx⟩, fun _ _ => rfl⟩
    · obtain ⟨i1, i2, i3⟩ := between H k (by omega) (by omega) fun p h1 h2 => hE p h1 (by omega)
      by_cases hA : C.A k = true ∧ C.ws k = true
      · obtain ⟨f, _, _, h3⟩ := C.made (by omega) hA.1 hA.2
        have hble := Heaps.le C H k (p := b) (by omega) (by omega)
        refine ⟨fun id => ?_, fun id x hx => ?_, fun id hid => ?_⟩
        · rw [h3]
          simp only [Heap.next_alloc]
          constructor
          · intro hlt
            by_cases e2 : id = (C.hs k).next
            · exact .inr ⟨k, by omega, by omega, hA.1, hA.2, e2⟩
            · rcases (i1 id).1 (by omega) with h | ⟨p, a1, a2, a3⟩
              · exact .inl h
              · exact .inr ⟨p, a1, by omega, a3⟩
          · intro h
            rcases h with h | ⟨p, a1, a2, a3, a4, a5⟩
            · have := (i1 id).2 (.inl h); omega
            · by_cases e2 : p = k
              · subst e2; omega
              · have := (i1 id).2 (.inr ⟨p, a1, by omega, a3, a4, a5⟩); omega
        · rw [h3, Heap.get_alloc] at hx
          unfold upd at hx
          split at hx
          · rename_i e2; cases hx; exact .inr ⟨k, by omega, by omega, hA.1, hA.2, e2, rfl⟩
          · rcases i2 id x hx with h | ⟨p, a1, a2, a3⟩
            · exact .inl h
            · exact .inr ⟨p, a1, by omega, a3⟩
        · rw [h3, Heap.get_alloc]
          unfold upd
          rw [if_neg (by omega)]
          exact i3 id hid
      · have hst := C.still (p := k) (by omega) (fun h => by cases hw : C.ws k; rfl; exact absurd ⟨h, hw⟩ hA) (hE k (by omega) (by omega))
        rw [hst]
        refine ⟨fun id => ?_, fun id x hx => ?_, i3⟩
        · rw [i1 id]
          constructor
          · intro h
            rcases h with h | ⟨p, a1, a2, a3⟩
            · exact .inl h
            · exact .inr ⟨p, a1, by omega, a3⟩
          · intro h
            rcases h with h | ⟨p, a1, a2, a3, a4, a5⟩
            · exact .inl h
            · by_cases e2 : p = k
              · subst e2; exact absurd ⟨a3, a4⟩ hA
              · exact .inr ⟨p, a1, by omega, a3, a4, a5⟩
        · rcases i2 id x hx with h | ⟨p, a1, a2, a3⟩
          · exact .inl h
          · exact .inr ⟨p, a1, by omega, a3⟩

/-! ### What is there at a moment of another order -/
/-- The blocks that have been made ahead. -/
def Ahead (b : Nat) (l : Array Bool) (p : Nat) : Prop := b ≤ p ∧ p < ops.size ∧ C.A p = true ∧ C.ws p = true ∧ C.dn l p = true

def SD (b : Nat) (l : Array Bool) : Scope := fun id => id < (C.hs b).next ∨ ∃ p, C.Ahead b l p ∧ id = (C.hs p).next

open Classical in
noncomputable def gD (b : Nat) (l : Array Bool) : Get := fun id => if id < (C.hs b).next then (C.hs b).get id else if h : ∃ p, C.Ahead b l p ∧ id = (C.hs p).next then some (C.bk h.choose) else none

theorem gD_low {b : Nat} {l : Array Bool} {id : Nat} (h : id < (C.hs b).next) : C.gD b l id = (C.hs b).get id := by unfold gD; rw [if_pos h]

theorem gD_ahead (H : C.Heaps) {b : Nat} {l : Array Bool} {p : Nat} (h : C.Ahead b l p) : C.gD b l (C.hs p).next = some (C.bk p) := by
  unfold gD
  have hle := Heaps.le C H p (p := b) h.1 (by have := h.2.1; omega)
  rw [if_neg (by omega)]
  have he : ∃ q, C.Ahead b l q ∧ (C.hs p).next = (C.hs q).next := ⟨p, h, rfl⟩
  rw [dif_pos he]
  obtain ⟨h1, h2⟩ := he.choose_spec
  rw [← C.uniq H h.2.1 h1.2.1 h.2.2.1 h1.2.2.1 h.2.2.2.1 h1.2.2.2.1 h2]

theorem gD_inv {b : Nat} {l : Array Bool} {id : Nat} {x : Blk} (h : C.gD b l id = some x) : (id < (C.hs b).next ∧ (C.hs b).get id = some x) ∨ ∃ p, C.Ahead b l p ∧ id = (C.hs p).next ∧ x = C.bk p := by
  unfold gD at h
  split at h
  · rename_i hlt; exact .inl ⟨hlt, h⟩
  · split at h
    · rename_i he; cases h; exact .inr ⟨_, he.choose_spec.1, he.choose_spec.2, rfl⟩
    · cases h

/-- A heap of the run is a part of it, where all that was made ahead of its place has been made. -/
theorem sub_gD (H : C.Heaps) {b k : Nat} {l : Array Bool} (hbk : b ≤ k) (hk : k ≤ ops.size) (hE : ∀ p, b ≤ p → p < k → C.E p = true → C.ws p = false) (hA : ∀ p, b ≤ p → p < k → C.A p = true → C.dn l p = true) :
    (∀ id x, (C.hs k).get id = some x → C.gD b l id = some x) ∧ (∀ id, id < (C.hs k).next → C.SD b l id) := by
  obtain ⟨i1, i2, _⟩ := C.between H k hbk hk hE
  refine ⟨fun id x hx => ?_, fun id hid => ?_⟩
  · rcases i2 id x hx with ⟨h1, h2⟩ | ⟨p, a1, a2, a3, a4, rfl, rfl⟩
    · rw [C.gD_low h1]; exact h2
    · exact C.gD_ahead H ⟨a1, by omega, a3, a4, hA p a1 a2 a3⟩
  · rcases (i1 id).1 hid with h | ⟨p, a1, a2, a3, a4, rfl⟩
    · exact .inl h
    · exact .inr ⟨p, ⟨a1, by omega, a3, a4, hA p a1 a2 a3⟩, rfl⟩

/-! ### The invariant -/
structure Inv (C : Ctx P G N ops M) (B : Nat) (ρ0 : Ren) (w0 : World) (l : Array Bool) (a : Act) (w : World) (b : Nat) (ρ : Ren) : Prop where
  sz : l.size = ops.size
  cl : ∀ p q, p < ops.size → q < ops.size → C.dn l p = true → bf M (C.ix q) (C.ix p) = true → C.dn l q = true
  bn : b ≤ ops.size
  bE : b = 0 ∨ C.E (b - 1) = true
  eD : ∀ p, p < ops.size → C.E p = true → (C.dn l p = true ↔ p < b)
  tm : ∀ t, VR ρ (C.SD b l) (C.lastW (C.dn l) t ops.size) (a.tmps.getD t undef)
  tsz : a.tmps.size = N
  df : DefsR ρ (C.SD b l) (C.frs 0).df a.defers
  st : Step B G ρ0 (lts (C.hs 0).next) (C.hs 0).get w0 ρ (C.SD b l) (C.gD b l) w

variable {l : Array Bool} {a : Act} {w : World} {b : Nat} {ρ : Ren}

/-- What comes before an operation that may come up has come up. -/
theorem preds (I : Inv C B ρ0 w0 l a w b ρ) {q : Nat} (hq : q < ops.size) (hrdy : ∀ e ∈ (C.oo q).after, Region.binds .any e = true → l.getD e.on false = true) {p : Nat} (hp : p < ops.size) (h : bf M (C.ix p) (C.ix q) = true) : C.dn l p = true := by
  obtain ⟨e, he, hb, h2⟩ := (C.mask q hq).2 (C.ix p) (C.lt p hp) h
  have hd := hrdy e he hb
  rcases h2 with h2 | h2
  · unfold dn; rw [← h2]; exact hd
  · obtain ⟨r, hr, hre⟩ := C.surj e.on ((C.mask q hq).1 e he hb).2
    exact I.cl r p hr hp (by unfold dn; rw [hre]; exact hd) (by rw [hre]; exact h2)

/-- A temporary that an operation names holds what it holds in the run. -/
theorem looks (I : Inv C B ρ0 w0 l a w b ρ) {q : Nat} (hq : q < ops.size) (hnd : C.dn l q = false) (hrdy : ∀ e ∈ (C.oo q).after, Region.binds .any e = true → l.getD e.on false = true) {t : Nat} (ht : t ∈ (C.oo q).looksAt ops) :
    VR ρ (C.SD b l) ((C.frs q).get t) (a.tmps.getD t undef) := by
  have := I.tm t
  rwa [C.lastW_cut (p := q) (by omega)] at this
  intro p hp hd
  rcases Nat.lt_trichotomy p q with h | h | h
  · refine ⟨fun _ => h, fun _ => ?_⟩
    rcases (C.pair p q h hq).2 with h2 | ⟨h2, _⟩
    · exact C.preds I hq hrdy hp h2
    · exact absurd ht ((Oper.apart_spec h2).1 t hd)
  · subst h; simp [hnd]
  · refine ⟨fun hdn => ?_, fun hlt => by omega⟩
    rcases (C.pair q p h hp).2 with h2 | ⟨h2, _⟩
    · have := I.cl p q hp hq hdn h2; rw [hnd] at this; cases this
    · exact absurd ht ((Oper.apart_spec h2).2.2 t hd)

theorem opnd (I : Inv C B ρ0 w0 l a w b ρ) {q : Nat} (hq : q < ops.size) (hnd : C.dn l q = false) (hrdy : ∀ e ∈ (C.oo q).after, Region.binds .any e = true → l.getD e.on false = true) :
    ∀ x ∈ (C.oo q).op.operands, VR ρ (C.SD b l) ((C.frs q).ev x) (a.eval x) := by
  intro x hx
  have hwf := C.wf q hq
  simp only [wfOper, Bool.and_eq_true, List.all_eq_true] at hwf
  have hwx := hwf.1 x (by simpa using hx)
  cases x with
  | tmp t => exact C.looks I hq hnd hrdy (List.mem_append_left _ (List.mem_filterMap.2 ⟨.tmp t, by simpa using hx, rfl⟩))
  | const v => exact .of_closed hwx
  | global g =>
    have hg := blt_iff.1 hwx
    obtain ⟨h1, h2⟩ := I.st.hr.glob g hg
    exact .ptr ⟨I.st.hr.globs g hg, rfl, by simp [h1, h2]⟩
  | func f => exact .func rfl (fun i x y hx _ => by simp at hx) rfl (fun i x y hx _ => by simp at hx)

theorem wanted (I : Inv C B ρ0 w0 l a w b ρ) {q : Nat} (hq : q < ops.size) (hnd : C.dn l q = false) (hrdy : ∀ e ∈ (C.oo q).after, Region.binds .any e = true → l.getD e.on false = true) :
    Region.wanted (C.oo q) (yielded ops a.tmps) = C.ws q := by
  have hy := C.want q hq
  unfold wantedA at hy
  unfold Region.wanted
  split at hy
  · rename_i hg; rw [hg]; simpa using hy
  · rename_i j want hg
    simp only [hg]
    split at hy
    · rename_i d hdst
      have ht := C.looks I hq hnd hrdy (t := d) (List.mem_append_right _ (by rw [hg]; simp [hdst]))
      have hdn : d < a.tmps.size := by
        rw [I.tsz]
        obtain ⟨o, ho, hod⟩ := Option.bind_eq_some_iff.1 hdst
        obtain ⟨r, hr, hre⟩ := C.surj j (Array.getElem?_eq_some_iff.1 ho).1
        have := C.hoo r hr
        rw [hre, ho] at this
        cases this
        exact C.dst_lt hr hod
      have hget : ∀ V, a.tmps.getD d undef = V → a.tmps[d]? = some V := fun V hV => by
        rw [Array.getElem?_eq_getElem hdn, ← hV]; simp [hdn]
      split at hy
      · rename_i b' hb
        rw [hb] at ht
        have := hget _ ht.bool_inv
        simp only [Option.some.injEq] at hy
        rw [← hy]
        simp [yielded, hdst, this]
      · rename_i us hb
        split at hy
        · rename_i hz
          rw [hb] at ht
          have := hget _ (ht.undef_inv (Nat.eq_of_beq_eq_true hz))
          simp only [Option.some.injEq] at hy
          rw [← hy]
          simp [yielded, hdst, this, undef]
        · cases hy
      · cases hy
    · rename_i hdst
      simp only [Option.some.injEq] at hy
      rw [← hy]
      simp [yielded, hdst]

theorem put_size (a : Act) (dst : Option Tmp) (V : Value) : (a.put dst V).tmps.size = a.tmps.size := by cases dst <;> simp [Act.put]

/-! ### One operation more has come up -/
theorem dn_set (I : Inv C B ρ0 w0 l a w b ρ) {q p : Nat} (hq : q < ops.size) (hp : p < ops.size) : C.dn (l.setIfInBounds (C.ix q) true) p = if p = q then true else C.dn l p := by
  have hlt := C.lt q hq
  unfold dn
  by_cases e : p = q
  · subst e; rw [if_pos rfl]; simp [I.sz, hlt]
  · rw [if_neg e]
    have : C.ix q ≠ C.ix p := fun h => e (C.inj q p hq hp h).symm
    simp [Array.getElem?_setIfInBounds_ne this]

/-- What holds of the temporaries then. -/
theorem tms (I : Inv C B ρ0 w0 l a w b ρ) {q : Nat} (hq : q < ops.size) (hnd : C.dn l q = false) {ρ' : Ren} {S' : Scope} (hρ : ∀ i, C.SD b l i → ρ' i = ρ i) (hS : ∀ i, C.SD b l i → S' i) {V : Value} (hV : VR ρ' S' (C.vs q) V) (t : Nat) :
    VR ρ' S' (C.lastW (C.dn (l.setIfInBounds (C.ix q) true)) t ops.size) ((a.put (C.oo q).dst V).tmps.getD t undef) := by
  by_cases hd : (C.oo q).dst = some t
  · rw [C.lastW_last (q := q) (by rw [C.dn_set I hq hq, if_pos rfl]) hd ops.size hq ?_]
    · have : t < a.tmps.size := by rw [I.tsz]; exact C.dst_lt hq hd
      rw [hd]; simpa [Act.put, this] using hV
    · intro p h1 h2 h3
      rw [C.dn_set I hq h2, if_neg (by omega)]
      rcases (C.pair q p h1 h2).2 with h | ⟨h, _⟩
      · cases hdn : C.dn l p with
        | false => rfl
        | true => have := I.cl p q h2 hq hdn h; rw [hnd] at this; cases this
      · exact absurd h3 ((Oper.apart_spec h).2.1 t hd)
  · rw [C.lastW_congr (sel' := C.dn l) ops.size ?_]
    · have := (I.tm t).mono hρ hS
      cases hdst : (C.oo q).dst with
      | none => exact this
      | some d =>
        have hne : d ≠ t := fun e => hd (by rw [hdst, e])
        simpa [Act.put, Array.getElem?_setIfInBounds_ne hne] using this
    · intro p hp h3
      rw [C.dn_set I hq hp, if_neg (fun e => hd (by rw [← e]; exact h3))]

theorem cl_set (I : Inv C B ρ0 w0 l a w b ρ) {q : Nat} (hq : q < ops.size) (hrdy : ∀ e ∈ (C.oo q).after, Region.binds .any e = true → l.getD e.on false = true) :
    ∀ p r, p < ops.size → r < ops.size → C.dn (l.setIfInBounds (C.ix q) true) p = true → bf M (C.ix r) (C.ix p) = true → C.dn (l.setIfInBounds (C.ix q) true) r = true := by
  intro p r hp hr hdn hb
  rw [C.dn_set I hq hr]
  split
  · rfl
  · rw [C.dn_set I hq hp] at hdn
    split at hdn
    · rename_i e; subst e; exact C.preds I hq hrdy hr hb
    · exact I.cl p r hp hr hdn hb

/-- A scope and a heap that hang on what has been made ahead alone. -/
theorem ahead_same {l' : Array Bool} {b : Nat} (h : ∀ p, C.Ahead b l' p ↔ C.Ahead b l p) : C.SD b l' = C.SD b l ∧ C.gD b l' = C.gD b l := by
  have he : C.Ahead b l' = C.Ahead b l := funext fun p => propext (h p)
  constructor
  · unfold SD; rw [he]
  · unfold gD; rw [he]

/-- Behind an operation that neither makes nor writes memory. -/
theorem inv_plain (I : Inv C B ρ0 w0 l a w b ρ) {q : Nat} (hq : q < ops.size) (hnd : C.dn l q = false) (hrdy : ∀ e ∈ (C.oo q).after, Region.binds .any e = true → l.getD e.on false = true)
    (hE : C.E q = false) (hA : C.A q = true → C.ws q = false) {V : Value} (hV : VR ρ (C.SD b l) (C.vs q) V) : Inv C B ρ0 w0 (l.setIfInBounds (C.ix q) true) (a.put (C.oo q).dst V) w b ρ := by
  have hs : ∀ p, C.Ahead b (l.setIfInBounds (C.ix q) true) p ↔ C.Ahead b l p := fun p => by
    unfold Ahead
    constructor
    · rintro ⟨h1, h2, h3, h4, h5⟩
      refine ⟨h1, h2, h3, h4, ?_⟩
      rw [C.dn_set I hq h2] at h5
      split at h5
      · rename_i e; subst e; rw [hA h3] at h4; cases h4
      · exact h5
    · rintro ⟨h1, h2, h3, h4, h5⟩
      refine ⟨h1, h2, h3, h4, ?_⟩
      rw [C.dn_set I hq h2]
      split
      · rfl
      · exact h5
  obtain ⟨e1, e2⟩ := C.ahead_same hs
  refine ⟨by simp [I.sz], C.cl_set I hq hrdy, I.bn, I.bE, fun p hp he => ?_, fun t => ?_, ?_, ?_, ?_⟩
  · rw [C.dn_set I hq hp, if_neg (fun e => by subst e; rw [hE] at he; cases he)]
    exact I.eD p hp he
  · rw [e1]; exact C.tms I hq hnd (fun _ _ => rfl) (fun _ h => h) hV t
  · exact (put_size a _ _).trans I.tsz
  · rw [e1]; have := I.df; cases (C.oo q).dst <;> exact this
  · rw [e1, e2]; exact I.st

theorem aOp_own {ev : Operand → Value} {o : Oper} {x : Blk} {f : Nat → Value} (h : aOp P ev o = some (x, f)) : ownB x = true := by
  obtain ⟨dst, op, type, pos, after, guard⟩ := o
  cases op <;> simp only [aOp] at h <;> (try (cases h; done))
  case alloc elem =>
    simp only [Option.bind_eq_some_iff] at h
    obtain ⟨z, _, h⟩ := h
    split at h <;> cases h
    rfl
  case box e x => cases h; rfl
  case buildSlice t len parts =>
    split at h
    · simp only [Option.bind_eq_some_iff] at h
      obtain ⟨_, _, _, _, h⟩ := h
      split at h
      · cases h
      · simp only [Option.map_eq_some_iff] at h
        obtain ⟨_, _, h⟩ := h
        cases h; rfl
    · cases h
  case makeMap t r => cases r <;> simp only at h <;> cases h; rfl
  case makeSlice t l c =>
    split at h
    · simp only [Option.bind_eq_some_iff] at h
      obtain ⟨_, _, _, _, h⟩ := h
      split at h
      · cases h
      · cases h; rfl
    · cases h
  case range t x => split at h <;> cases h; rfl
  case convert src dst x =>
    split at h
    · split at h
      · split at h <;> cases h; rfl
      · cases h
    · cases h

theorem ahead_next (H : C.Heaps) {p k : Nat} (hp : p < ops.size) (hA : C.A p = true) (hw : C.ws p = true) (hpk : p < k) (hk : k ≤ ops.size) : (C.hs p).next < (C.hs k).next := by
  obtain ⟨_, _, _, h3⟩ := C.made hp hA hw
  have := Heaps.le C H k (p := p + 1) (by omega) hk
  rw [h3] at this
  simp at this
  omega

theorem isA_notE {c : Cls} (h : isA c = true) : isE c = false := by cases c <;> simp_all [isA, isE]
theorem isR_notE {c : Cls} (h : isR c = true) : isE c = false := by cases c <;> simp_all [isR, isE]

/-- A place where memory is made lies behind the last effect that has come up. -/
theorem alloc_ge (I : Inv C B ρ0 w0 l a w b ρ) {q : Nat} (hq : q < ops.size) (hnd : C.dn l q = false) (hA : C.A q = true) : b ≤ q := by
  rcases Nat.lt_or_ge q b with h | h
  · rcases I.bE with h0 | hE
    · omega
    · have hb1 : b - 1 < ops.size := by have := I.bn; omega
      have hne : q ≠ b - 1 := fun e => by subst e; rw [A] at hA; rw [E, isA_notE hA] at hE; cases hE
      have hlt : q < b - 1 := by omega
      rcases (C.pair q (b - 1) hlt hb1).2 with h2 | ⟨_, _, h2, _⟩
      · have hd := (I.eD (b - 1) hb1 hE).2 (by omega)
        have := I.cl (b - 1) q hb1 hq hd h2
        rw [hnd] at this; cases this
      · exact absurd ⟨hA, hE⟩ h2
  · exact h

/-- Behind an operation that makes memory. -/
theorem inv_alloc (H : C.Heaps) (I : Inv C B ρ0 w0 l a w b ρ) {q : Nat} (hq : q < ops.size) (hnd : C.dn l q = false) (hrdy : ∀ e ∈ (C.oo q).after, Region.binds .any e = true → l.getD e.on false = true)
    (hA : C.A q = true) (hw : C.ws q = true) {V : Value} {w' : World} {f : Nat → Value} (hf : C.vs q = f (C.hs q).next) (hm : Makes B ρ (C.SD b l) w (C.bk q) f V w') :
    ∃ ρ', Inv C B ρ0 w0 (l.setIfInBounds (C.ix q) true) (a.put (C.oo q).dst V) w' b ρ' := by
  have hbq := C.alloc_ge I hq hnd hA
  have hdn' : C.dn (l.setIfInBounds (C.ix q) true) q = true := by rw [C.dn_set I hq hq, if_pos rfl]
  have hah : C.Ahead b (l.setIfInBounds (C.ix q) true) q := ⟨hbq, hq, hA, hw, hdn'⟩
  have hs : ∀ p, C.Ahead b (l.setIfInBounds (C.ix q) true) p ↔ C.Ahead b l p ∨ p = q := fun p => by
    constructor
    · rintro ⟨h1, h2, h3, h4, h5⟩
      rw [C.dn_set I hq h2] at h5
      split at h5
      · exact .inr ‹_›
      · exact .inl ⟨h1, h2, h3, h4, h5⟩
    · rintro (⟨h1, h2, h3, h4, h5⟩ | rfl)
      · refine ⟨h1, h2, h3, h4, ?_⟩
        rw [C.dn_set I hq h2]
        split
        · rfl
        · exact h5
      · exact hah
  have hnot : ¬ C.SD b l (C.hs q).next := by
    rintro (h | ⟨p, hp, he⟩)
    · have := Heaps.le C H q hbq (by omega); omega
    · have := C.uniq H hq hp.2.1 hA hp.2.2.1 hw hp.2.2.2.1 he
      subst this
      have := hp.2.2.2.2; rw [hnd] at this; cases this
  have hSS : ∀ i, C.SD b l i → C.SD b (l.setIfInBounds (C.ix q) true) i := by
    rintro i (h | ⟨p, hp, he⟩)
    · exact .inl h
    · exact .inr ⟨p, (hs p).2 (.inl hp), he⟩
  have hSq : C.SD b (l.setIfInBounds (C.ix q) true) (C.hs q).next := .inr ⟨q, hah, rfl⟩
  have hget : C.gD b (l.setIfInBounds (C.ix q) true) = upd (C.gD b l) (C.hs q).next (some (C.bk q)) := by
    funext j
    unfold upd
    split
    · rename_i e; subst e; exact C.gD_ahead H hah
    · rename_i e
      apply Option.ext
      intro x
      constructor
      · intro h
        rcases C.gD_inv h with ⟨h1, h2⟩ | ⟨p, hp, rfl, rfl⟩
        · rw [C.gD_low h1]; exact h2
        · rcases (hs p).1 hp with hp | rfl
          · exact C.gD_ahead H hp
          · exact absurd rfl e
      · intro h
        rcases C.gD_inv h with ⟨h1, h2⟩ | ⟨p, hp, rfl, rfl⟩
        · rw [C.gD_low h1]; exact h2
        · exact C.gD_ahead H ((hs p).2 (.inl hp))
  obtain ⟨hW, hob, r, hrb, hall⟩ := hm
  have hρ : ∀ i, C.SD b l i → (fun i => if i = (C.hs q).next then r else ρ i) i = ρ i := fun i hi => by
    have : i ≠ (C.hs q).next := fun e => hnot (e ▸ hi)
    simp [this]
  obtain ⟨h1, h2⟩ := hall (fun i => if i = (C.hs q).next then r else ρ i) (C.SD b (l.setIfInBounds (C.ix q) true)) (C.hs q).next hρ hSS hSq (by simp)
  have st := I.st.hr.newBlk (id := (C.hs q).next) (m := C.SD b (l.setIfInBounds (C.ix q) true)) hnot hSS hSq hW hρ (by simp [hrb]) h1
  refine ⟨fun i => if i = (C.hs q).next then r else ρ i, by simp [I.sz], C.cl_set I hq hrdy, I.bn, I.bE, fun p hp he => ?_, fun t => ?_, ?_, ?_, ?_⟩
  · rw [C.dn_set I hq hp, if_neg (fun e => by subst e; rw [A] at hA; rw [E, isA_notE hA] at he; cases he)]
    exact I.eD p hp he
  · refine C.tms I hq hnd hρ hSS ?_ t
    rw [hf]; exact h2
  · exact (put_size a _ _).trans I.tsz
  · have := I.df.mono hρ hSS; cases (C.oo q).dst <;> exact this
  · rw [hget]; exact I.st.trans st

/-- What is known where an effect may come up. -/
theorem eff_at (H : C.Heaps) (I : Inv C B ρ0 w0 l a w b ρ) {q : Nat} (hq : q < ops.size) (hnd : C.dn l q = false) (hrdy : ∀ e ∈ (C.oo q).after, Region.binds .any e = true → l.getD e.on false = true) (hE : C.E q = true) :
    b ≤ q ∧ (∀ p, p < q → C.E p = true → p < b) ∧ (∀ id x, (C.hs q).get id = some x → C.gD b l id = some x) ∧ (∀ id, id < (C.hs q).next → C.SD b l id) := by
  have h1 : b ≤ q := by
    rcases Nat.lt_or_ge q b with h | h
    · have := (I.eD q hq hE).2 h; rw [hnd] at this; cases this
    · exact h
  have h2 : ∀ p, p < q → C.E p = true → p < b := fun p hp he => by
    rcases (C.pair p q hp hq).2 with h | ⟨_, h, _⟩
    · exact (I.eD p (by omega) he).1 (C.preds I hq hrdy (by omega) h)
    · exact absurd ⟨he, hE⟩ h
  have h3 := C.sub_gD H (l := l) h1 (by omega) (fun p a1 a2 a3 => by have := h2 p a2 a3; omega) (fun p a1 a2 a3 => by
    rcases (C.pair p q a2 hq).2 with h | ⟨_, _, h, _⟩
    · exact C.preds I hq hrdy (by omega) h
    · exact absurd ⟨a3, hE⟩ h)
  exact ⟨h1, h2, h3.1, h3.2⟩

/-- The order of effects. -/
theorem eD_eff (I : Inv C B ρ0 w0 l a w b ρ) {q : Nat} (hq : q < ops.size) (hbq : b ≤ q) (hlow : ∀ p, p < q → C.E p = true → p < b) : ∀ p, p < ops.size → C.E p = true → (C.dn (l.setIfInBounds (C.ix q) true) p = true ↔ p < q + 1) := by
  intro p hp he
  rw [C.dn_set I hq hp]
  split
  · rename_i e; simp [e]
  · rename_i e
    rw [I.eD p hp he]
    constructor
    · intro h; omega
    · intro h; exact hlow p (by omega) he

/-- What lies ahead of an effect lies ahead of the next. -/
theorem ahead_eff (I : Inv C B ρ0 w0 l a w b ρ) {q : Nat} (hq : q < ops.size) (hbq : b ≤ q) (p : Nat) : C.Ahead (q + 1) (l.setIfInBounds (C.ix q) true) p ↔ C.Ahead b l p ∧ q < p := by
  constructor
  · rintro ⟨h1, h2, h3, h4, h5⟩
    rw [C.dn_set I hq h2, if_neg (by omega)] at h5
    exact ⟨⟨by omega, h2, h3, h4, h5⟩, by omega⟩
  · rintro ⟨⟨h1, h2, h3, h4, h5⟩, h6⟩
    refine ⟨by omega, h2, h3, h4, ?_⟩
    rw [C.dn_set I hq h2, if_neg (by omega)]
    exact h5

theorem scope_eff (H : C.Heaps) (_I : Inv C B ρ0 w0 l a w b ρ) {q : Nat} (hq : q < ops.size) (hbq : b ≤ q) (hE : C.E q = true) : ∀ i, C.SD b l i → i < (C.hs q).next ∨ ∃ p, C.Ahead b l p ∧ q < p ∧ i = (C.hs p).next := by
  rintro i (h | ⟨p, hp, rfl⟩)
  · have := Heaps.le C H q hbq (by omega); exact .inl (by omega)
  · rcases Nat.lt_trichotomy p q with h | h | h
    · exact .inl (C.ahead_next H hp.2.1 hp.2.2.1 hp.2.2.2.1 h (by omega))
    · subst h; have := hp.2.2.1; rw [A] at this; rw [E, isA_notE this] at hE; cases hE
    · exact .inr ⟨p, hp, h, rfl⟩

/-- Behind an effect that was not wanted. -/
theorem inv_noeff (H : C.Heaps) (I : Inv C B ρ0 w0 l a w b ρ) {q : Nat} (hq : q < ops.size) (hnd : C.dn l q = false) (hrdy : ∀ e ∈ (C.oo q).after, Region.binds .any e = true → l.getD e.on false = true)
    (hE : C.E q = true) (hw : C.ws q = false) : Inv C B ρ0 w0 (l.setIfInBounds (C.ix q) true) (a.put (C.oo q).dst undef) w (q + 1) ρ := by
  obtain ⟨hbq, hlow, hsub, hsc⟩ := C.eff_at H I hq hnd hrdy hE
  obtain ⟨hv, hh⟩ := C.no q hq hw
  have hSS : ∀ i, C.SD b l i → C.SD (q + 1) (l.setIfInBounds (C.ix q) true) i := fun i hi => by
    rcases C.scope_eff H I hq hbq hE i hi with h | ⟨p, hp, h, rfl⟩
    · exact .inl (by rw [hh]; exact h)
    · exact .inr ⟨p, (C.ahead_eff I hq hbq p).2 ⟨hp, h⟩, rfl⟩
  have hgg : ∀ id x, C.gD (q + 1) (l.setIfInBounds (C.ix q) true) id = some x → C.gD b l id = some x := fun id x hx => by
    rcases C.gD_inv hx with ⟨h1, h2⟩ | ⟨p, hp, rfl, rfl⟩
    · rw [hh] at h2; exact hsub id x h2
    · exact C.gD_ahead H ((C.ahead_eff I hq hbq p).1 hp).1
  refine ⟨by simp [I.sz], C.cl_set I hq hrdy, by omega, .inr hE, C.eD_eff I hq hbq hlow, fun t => C.tms I hq hnd (fun _ _ => rfl) hSS (by rw [hv]; exact .undef) t, ?_, ?_, ?_⟩
  · exact (put_size a _ _).trans I.tsz
  · have := I.df.mono (fun _ _ => rfl) hSS; cases (C.oo q).dst <;> exact this
  · refine I.st.trans ⟨?_, hSS, fun _ _ => rfl, Nat.le_refl _, fun _ _ _ => rfl, fun i hi _ => ⟨i, own_sub hgg hi, rfl⟩, rfl, rfl, rfl⟩
    have h0 := I.st.hr.sub hgg
    exact ⟨fun id x hx => (h0.blk id x hx).mono (h0.lt id x hx) (fun _ _ => rfl) hSS, fun id x hx => hSS _ (h0.lt id x hx), h0.inj, h0.glob, fun g hg => hSS _ (h0.globs g hg), h0.base⟩

/-- Behind an effect. -/
theorem inv_eff (H : C.Heaps) (I : Inv C B ρ0 w0 l a w b ρ) {q : Nat} (hq : q < ops.size) (hnd : C.dn l q = false) (hrdy : ∀ e ∈ (C.oo q).after, Region.binds .any e = true → l.getD e.on false = true)
    (hE : C.E q = true) {V : Value} {w' : World} {ρ1 : Ren} (st1 : Step B G ρ (lts (C.hs q).next) (C.hs q).get w ρ1 (lts (C.hs (q + 1)).next) (C.hs (q + 1)).get w') (hV : VR ρ1 (lts (C.hs (q + 1)).next) (C.vs q) V) :
    ∃ ρ', Inv C B ρ0 w0 (l.setIfInBounds (C.ix q) true) (a.put (C.oo q).dst V) w' (q + 1) ρ' := by
  obtain ⟨hbq, hlow, hsub, hsc⟩ := C.eff_at H I hq hnd hrdy hE
  have hmono := H.mono q hq
  generalize hρ'd : (fun i => if i < (C.hs (q + 1)).next then ρ1 i else ρ i) = ρ'
  have hlo : ∀ i, i < (C.hs (q + 1)).next → ρ' i = ρ1 i := fun i hi => by subst hρ'd; simp [hi]
  have hhi : ∀ i, (C.hs (q + 1)).next ≤ i → ρ' i = ρ i := fun i hi => by subst hρ'd; simp [Nat.not_lt.2 hi]
  have hbig : ∀ p, C.Ahead b l p → q < p → (C.hs (q + 1)).next ≤ (C.hs p).next := fun p hp h => Heaps.le C H p (by omega) (by have := hp.2.1; omega)
  have hρ : ∀ i, C.SD b l i → ρ' i = ρ i := fun i hi => by
    rcases C.scope_eff H I hq hbq hE i hi with h | ⟨p, hp, h, rfl⟩
    · rw [hlo i (by omega)]; exact st1.agree i h
    · exact hhi _ (hbig p hp h)
  have hSS : ∀ i, C.SD b l i → C.SD (q + 1) (l.setIfInBounds (C.ix q) true) i := fun i hi => by
    rcases C.scope_eff H I hq hbq hE i hi with h | ⟨p, hp, h, rfl⟩
    · exact .inl (by omega)
    · exact .inr ⟨p, (C.ahead_eff I hq hbq p).2 ⟨hp, h⟩, rfl⟩
  have hlS : ∀ i, lts (C.hs (q + 1)).next i → C.SD (q + 1) (l.setIfInBounds (C.ix q) true) i := fun i hi => .inl hi
  -- what the new heap says
  have hinv : ∀ id x, C.gD (q + 1) (l.setIfInBounds (C.ix q) true) id = some x → (id < (C.hs (q + 1)).next ∧ (C.hs (q + 1)).get id = some x) ∨ ∃ p, C.Ahead b l p ∧ q < p ∧ id = (C.hs p).next ∧ x = C.bk p ∧ C.gD b l id = some x := fun id x hx => by
    rcases C.gD_inv hx with h | ⟨p, hp, rfl, rfl⟩
    · exact .inl h
    · obtain ⟨h1, h2⟩ := (C.ahead_eff I hq hbq p).1 hp
      exact .inr ⟨p, h1, h2, rfl, rfl, C.gD_ahead H h1⟩
  have hownbk : ∀ p, C.Ahead b l p → own (C.gD b l) (C.hs p).next := fun p hp => by
    obtain ⟨f, h1, _⟩ := C.made hp.2.1 hp.2.2.1 hp.2.2.2.1
    exact own_iff.2 ⟨_, C.gD_ahead H hp, aOp_own h1⟩
  have hownq : ∀ i, own (C.hs q).get i → own (C.gD b l) i ∧ i < (C.hs q).next := fun i hi => by
    obtain ⟨x, hx, hx'⟩ := own_iff.1 hi
    exact ⟨own_iff.2 ⟨x, hsub _ _ hx, hx'⟩, H.low q i x (by omega) hx⟩
  refine ⟨ρ', by simp [I.sz], C.cl_set I hq hrdy, by omega, .inr hE, C.eD_eff I hq hbq hlow, fun t => C.tms I hq hnd hρ hSS (hV.mono (fun i hi => hlo i hi) hlS) t, ?_, ?_, ?_⟩
  · exact (put_size a _ _).trans I.tsz
  · have := I.df.mono hρ hSS; cases (C.oo q).dst <;> exact this
  · refine I.st.trans ?_
    refine { hr := { blk := ?_, lt := ?_, inj := ?_, glob := ?_, globs := ?_, base := ?_ }, le := hSS, agree := hρ, size := st1.size, frame := ?_, foot := ?_, os := st1.os, tape := st1.tape, output := st1.output }
    · intro id x hx
      rcases hinv id x hx with ⟨h1, h2⟩ | ⟨p, hp, h2, rfl, rfl, h3⟩
      · exact (st1.hr.blk id x h2).mono h1 (fun i hi => hlo i hi) hlS
      · have hB := I.st.hr.blk _ _ h3
        refine (hB.frame (w' := w') ?_).mono (I.st.hr.lt _ _ h3) hρ hSS
        refine st1.frame _ hB.lt fun i hi he => ?_
        obtain ⟨hi1, hi2⟩ := hownq i hi
        have := I.st.hr.inj i _ hi1 (hownbk p hp) he
        have := hbig p hp h2
        omega
    · intro id x hx
      rcases hinv id x hx with ⟨h1, h2⟩ | ⟨p, hp, h2, rfl, rfl, h3⟩
      · exact .inl h1
      · exact hSS _ (I.st.hr.lt _ _ h3)
    · intro i j hi hj he
      obtain ⟨x, hx, hx'⟩ := own_iff.1 hi
      obtain ⟨y, hy, hy'⟩ := own_iff.1 hj
      have mixed : ∀ (i j : Nat), i < (C.hs (q + 1)).next → own (C.hs (q + 1)).get i → (∃ p, C.Ahead b l p ∧ q < p ∧ j = (C.hs p).next) → (ρ1 i).blk = (ρ j).blk → False := fun i j h1 h2 ⟨p, hp, h3, hjp⟩ he => by
        subst hjp
        have hlt := own.lt I.st.hr (hownbk p hp)
        obtain ⟨i0, h4, h5⟩ := st1.foot i h2 (by rw [he]; exact hlt)
        obtain ⟨h6, h7⟩ := hownq i0 h4
        have := I.st.hr.inj i0 _ h6 (hownbk p hp) (h5.trans he)
        have := hbig p hp h3
        omega
      rcases hinv i x hx with ⟨h1, h2⟩ | ⟨p, hp, h2, rfl, rfl, h3⟩
      · rcases hinv j y hy with ⟨k1, k2⟩ | ⟨r, hr, k2, rfl, rfl, k3⟩
        · rw [hlo i h1, hlo j k1] at he
          exact st1.hr.inj i j (own_iff.2 ⟨x, h2, hx'⟩) (own_iff.2 ⟨y, k2, hy'⟩) he
        · rw [hlo i h1, hhi _ (hbig r hr k2)] at he
          exact (mixed i _ h1 (own_iff.2 ⟨x, h2, hx'⟩) ⟨r, hr, k2, rfl⟩ he).elim
      · rcases hinv j y hy with ⟨k1, k2⟩ | ⟨r, hr, k2, rfl, rfl, k3⟩
        · rw [hlo j k1, hhi _ (hbig p hp h2)] at he
          exact (mixed j _ k1 (own_iff.2 ⟨y, k2, hy'⟩) ⟨p, hp, h2, rfl⟩ he.symm).elim
        · rw [hhi _ (hbig p hp h2), hhi _ (hbig r hr k2)] at he
          exact I.st.hr.inj _ _ (hownbk p hp) (hownbk r hr) he
    · intro g hg
      rw [hρ g (I.st.hr.globs g hg)]
      exact I.st.hr.glob g hg
    · exact fun g hg => hSS _ (I.st.hr.globs g hg)
    · exact st1.hr.base
    · exact fun k hk hne => st1.frame k hk fun i hi => hne i (hownq i hi).1
    · intro i hi hlt
      obtain ⟨x, hx, hx'⟩ := own_iff.1 hi
      rcases hinv i x hx with ⟨h1, h2⟩ | ⟨p, hp, h2, rfl, rfl, h3⟩
      · rw [hlo i h1] at hlt ⊢
        obtain ⟨j, hj, he⟩ := st1.foot i (own_iff.2 ⟨x, h2, hx'⟩) hlt
        exact ⟨j, (hownq j hj).1, he⟩
      · rw [hhi _ (hbig p hp h2)] at hlt ⊢
        exact ⟨_, hownbk p hp, rfl⟩

/-- One operation, whichever comes up. -/
theorem step (H : C.Heaps) (hwit : ∀ p, p ≤ ops.size → ∃ ρ a w, FR ρ (lts (C.hs p).next) (C.frs p) a ∧ HR B G ρ (lts (C.hs p).next) (C.hs p).get w) (I : Inv C B ρ0 w0 l a w b ρ) {i : Nat} (hi : i ∈ Region.ready .any ops l) (Q : Exit → Act → World → Prop)
    (K : Act → World → Prop) (hK : ∀ a' w' b' ρ', Inv C B ρ0 w0 (l.setIfInBounds i true) a' w' b' ρ' → K a' w') : wpOp P ops Q i K a w := by
  obtain ⟨hnl, o, ho, hall⟩ := mem_ready.1 hi
  have hil : i < ops.size := (Array.getElem?_eq_some_iff.1 ho).1
  obtain ⟨q, hq, rfl⟩ := C.surj i hil
  have hoq : o = C.oo q := by have := C.hoo q hq; rw [ho] at this; cases this; rfl
  subst hoq
  have hnd : C.dn l q = false := by
    unfold dn
    have : C.ix q < l.size := by rw [I.sz]; exact hil
    simpa [this] using hnl
  have hrdy := hall
  have hw := C.wanted I hq hnd hrdy
  have hv := C.opnd I hq hnd hrdy
  unfold wpOp
  simp only [ho, hw]
  cases hws : C.ws q with
  | false =>
    rw [if_neg (by simp)]
    obtain ⟨hvu, _⟩ := C.no q hq hws
    cases hE : C.E q with
    | true => exact hK _ _ _ _ (C.inv_noeff H I hq hnd hrdy hE hws)
    | false => exact hK _ _ _ _ (C.inv_plain I hq hnd hrdy hE (fun _ => hws) (by rw [hvu]; exact .undef))
  | true =>
    rw [if_pos rfl]
    refine .inl ?_
    have hop := C.yes q hq hws
    cases hc : clsOf P (C.oo q) with
    | p =>
      have hop' := hop
      unfold OpA at hop'
      rw [hc] at hop'
      obtain ⟨V, h1, h2⟩ := pOp_sound (EV := a.eval) hv hop'.1
      unfold Oper.wp
      rw [h2]
      exact hK _ _ _ _ (C.inv_plain I hq hnd hrdy (by unfold E; rw [hc]; rfl) (fun hA => by unfold A at hA; rw [hc] at hA; cases hA) h1)
    | r =>
      have hop' := hop
      unfold OpA at hop'
      rw [hc] at hop'
      have hR : isR (clsOf P (C.oo q)) = true := by rw [hc]; rfl
      -- it reads the same here
      have hread : rOp P (C.frs q).ev (C.gD b l) (C.oo q) = some (C.vs q) := by
        rcases Nat.lt_or_ge q b with hqb | hbq
        · -- it comes late
          have key : ∀ k, q < k → k ≤ b → rOp P (C.frs q).ev (C.hs k).get (C.oo q) = some (C.vs q) := by
            intro k
            induction k with
            | zero => intro h; omega
            | succ k ih =>
              intro h1 h2
              have hk : k < ops.size := by have := I.bn; omega
              by_cases e : k = q
              · subst e; rw [hop'.2]; exact hop'.1
              · have hrk := ih (by omega) (by omega)
                by_cases hA : C.A k = true ∧ C.ws k = true
                · obtain ⟨f, _, _, h3⟩ := C.made hk hA.1 hA.2
                  rw [h3, Heap.get_alloc]
                  refine rOp_mono (fun id x hx => ?_) hrk
                  unfold upd
                  have := H.low k id x (by omega) hx
                  rw [if_neg (by omega)]; exact hx
                · by_cases hE : C.E k = true ∧ C.ws k = true
                  · refine C.pend q k (by omega) hk hR hE.1 hws hE.2 ?_
                    cases hb : bf M (C.ix q) (C.ix k) with
                    | false => rfl
                    | true =>
                      have hd := (I.eD k hk hE.1).2 (by omega)
                      have := I.cl k q hk hq hd hb
                      rw [hnd] at this; cases this
                  · have hst := C.still hk (fun h => by cases hw : C.ws k; rfl; exact absurd ⟨h, hw⟩ hA) (fun h => by cases hw : C.ws k; rfl; exact absurd ⟨h, hw⟩ hE)
                    rw [hst]; exact hrk
          refine rOp_mono (fun id x hx => ?_) (key b hqb (Nat.le_refl _))
          have := H.low b id x I.bn hx
          rw [C.gD_low this]; exact hx
        · have hsub := C.sub_gD H (l := l) hbq (by omega) (fun p a1 a2 a3 => by
            rcases (C.pair p q a2 hq).2 with h | ⟨_, _, _, h, _⟩
            · have := (I.eD p (by omega) a3).1 (C.preds I hq hrdy (by omega) h); omega
            · exact absurd ⟨a3, hR⟩ h) (fun p a1 a2 a3 => by
            rcases (C.pair p q a2 hq).2 with h | ⟨_, _, _, _, h⟩
            · exact C.preds I hq hrdy (by omega) h
            · exact absurd ⟨a3, hR⟩ h)
          exact rOp_mono hsub.1 hop'.1
      obtain ⟨V, h1, h2⟩ := rOp_sound (EV := a.eval) I.st.hr hv hread
      unfold Oper.wp
      rw [h2]
      exact hK _ _ _ _ (C.inv_plain I hq hnd hrdy (by unfold E; rw [hc]; rfl) (fun hA => by unfold A at hA; rw [hc] at hA; cases hA) h1)
    | a =>
      have hA : C.A q = true := by unfold A; rw [hc]; rfl
      obtain ⟨f, h1, h2, h3⟩ := C.made hq hA hws
      obtain ⟨V, w', h4, h5⟩ := aOp_sound (EV := a.eval) I.st.hr.base hv h1
      unfold Oper.wp
      rw [h4]
      obtain ⟨ρ', hI⟩ := C.inv_alloc H I hq hnd hrdy hA hws h2 h5
      exact hK _ _ _ _ hI
    | e =>
      have hE : C.E q = true := by unfold E; rw [hc]; rfl
      obtain ⟨hbq, hlow, hsub, hsc⟩ := C.eff_at H I hq hnd hrdy hE
      obtain ⟨ρ1, a1, w1, hf1, hr1⟩ := hwit q (by omega)
      have hrn := I.st.hr.narrow hsub hr1
      have hwf := C.wf q hq
      simp only [wfOper, Bool.and_eq_true, List.all_eq_true] at hwf
      refine hop.eff (by rw [hc]; rfl) (fun x hx => (hv x hx).narrow (hf1.ev hr1 (hwf.1 x (by simpa using hx)))) hrn fun V w' ρ2 st hV => ?_
      obtain ⟨ρ', hI⟩ := C.inv_eff H I hq hnd hrdy hE st hV
      exact hK _ _ _ _ hI
    | call =>
      have hE : C.E q = true := by unfold E; rw [hc]; rfl
      obtain ⟨hbq, hlow, hsub, hsc⟩ := C.eff_at H I hq hnd hrdy hE
      obtain ⟨ρ1, a1, w1, hf1, hr1⟩ := hwit q (by omega)
      have hrn := I.st.hr.narrow hsub hr1
      have hwf := C.wf q hq
      simp only [wfOper, Bool.and_eq_true, List.all_eq_true] at hwf
      refine hop.eff (by rw [hc]; rfl) (fun x hx => (hv x hx).narrow (hf1.ev hr1 (hwf.1 x (by simpa using hx)))) hrn fun V w' ρ2 st hV => ?_
      obtain ⟨ρ', hI⟩ := C.inv_eff H I hq hnd hrdy hE st hV
      exact hK _ _ _ _ hI
    | defer => unfold OpA at hop; rw [hc] at hop; exact hop.elim
    | bad => unfold OpA at hop; rw [hc] at hop; exact hop.elim

/-- How many have not come up. -/
def undone (n : Nat) (l : Array Bool) : Nat := ((List.range n).filter fun i => !l.getD i true).length

theorem undone_set {l : Array Bool} {i n : Nat} (hi : i < n) (hl : l.size = n) (hn : l.getD i true = false) : undone n (l.setIfInBounds i true) + 1 = undone n l := by
  unfold undone
  have key : ∀ (L : List Nat), L.Nodup → i ∈ L → (L.filter fun j => !(l.setIfInBounds i true).getD j true).length + 1 = (L.filter fun j => !l.getD j true).length := by
    intro L
    induction L with
    | nil => intro _ h; cases h
    | cons x L ih =>
      intro hnd hm
      obtain ⟨hx, hnd⟩ := List.nodup_cons.1 hnd
      have hsame : ∀ j, j ≠ i → (l.setIfInBounds i true).getD j true = l.getD j true := fun j hj => by simp [Array.getElem?_setIfInBounds_ne (Ne.symm hj)]
      have hself : (l.setIfInBounds i true).getD i true = true := by
        have : i < l.size := by omega
        simp [this]
      by_cases e : x = i
      · subst e
        have hrest : (L.filter fun j => !(l.setIfInBounds x true).getD j true) = (L.filter fun j => !l.getD j true) := List.filter_congr fun j hj => by rw [hsame j (fun e => hx (e ▸ hj))]
        rw [List.filter_cons_of_neg (by rw [hself]; simp), List.filter_cons_of_pos (by rw [hn]; rfl), hrest]
        simp
      · have hm : i ∈ L := by
          cases hm with
          | head => exact absurd rfl e
          | tail _ h => exact h
        have := ih hnd hm
        by_cases hp : l.getD x true = true
        · rw [List.filter_cons_of_neg (by rw [hsame x e, hp]; simp), List.filter_cons_of_neg (by rw [hp]; simp)]; exact this
        · have hp : l.getD x true = false := by simpa using hp
          rw [List.filter_cons_of_pos (by rw [hsame x e, hp]; rfl), List.filter_cons_of_pos (by rw [hp]; rfl)]
          simp only [List.length_cons]; omega
  exact key _ List.nodup_range (List.mem_range.2 hi)

/-- If nothing may come up all has come up. -/
theorem all_done (I : Inv C B ρ0 w0 l a w b ρ) (h : Region.ready .any ops l = []) : ∀ p, p < ops.size → C.dn l p = true := by
  intro p
  induction p using Nat.strongRecOn with
  | _ p ih =>
    intro hp
    cases hd : C.dn l p with
    | true => rfl
    | false =>
      have : C.ix p ∈ Region.ready .any ops l := by
        refine mem_ready.2 ⟨?_, C.oo p, C.hoo p hp, fun e he hb => ?_⟩
        · unfold dn at hd
          have : C.ix p < l.size := by rw [I.sz]; exact C.lt p hp
          simpa [this] using hd
        · obtain ⟨h1, h2⟩ := (C.mask p hp).1 e he hb
          obtain ⟨r, hr, hre⟩ := C.surj e.on h2
          have hrp : r < p := by
            rcases Nat.lt_trichotomy r p with h | h | h
            · exact h
            · subst h
              have := C.irr r hp
              rw [← hre, this] at h1; cases h1
            · have := (C.pair p r h hr).1; rw [hre, h1] at this; cases this
          have := ih r hrp hr
          unfold dn at this; rwa [hre] at this
      rw [h] at this
      cases this

end
end Ctx
end Go.Ab
