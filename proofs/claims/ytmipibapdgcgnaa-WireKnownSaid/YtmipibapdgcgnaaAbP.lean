/- The abstract machine: operations on registers. -/
import Derived.Test.YtmipibapdgcgnaaAbRel
namespace Go.Ab
open Go

theorem pureRun_run {α : Type} (P : Program) : ∀ (s : Sem α) (a : α), pureRun P s = some a → ∀ w, s.run P w = .ok a w := by
  intro s
  induction s with
  | pure x => intro a h w; simp only [pureRun, Option.some.injEq] at h; subst h; rfl
  | program k ih => intro a h w; simp only [pureRun] at h; simp only [Sem.run]; exact ih P a h w
  | mark m k ih => intro a h w; simp only [pureRun] at h; simp only [Sem.run]; exact ih a h w
  | _ => intro a h w; simp [pureRun] at h

theorem pureS_run {P : Program} {s : Sem Value} {v : Value} (h : pureS P s = some v) : scalar v = true ∧ ∀ w, s.run P w = .ok v w := by
  unfold pureS at h
  cases hp : pureRun P s with
  | none => simp [hp] at h
  | some x =>
    simp only [hp, Option.bind_some] at h
    split at h
    · rename_i hs; cases h; exact ⟨hs, pureRun_run P s _ hp⟩
    · cases h

/-- All parts of two rows of values are related. -/
def VRs (ρ : Ren) (n : Scope) (cs ds : Array Value) : Prop := cs.size = ds.size ∧ ∀ (i : Nat) (x y : Value), cs[i]? = some x → ds[i]? = some y → VR ρ n x y

theorem VRs.get {ρ : Ren} {n : Scope} {cs ds : Array Value} (h : VRs ρ n cs ds) {i : Nat} {x : Value} (hx : cs[i]? = some x) : ∃ y, ds[i]? = some y ∧ VR ρ n x y := by
  have hi : i < ds.size := by
    have := (Array.getElem?_eq_some_iff.1 hx).1
    rw [← h.1]; exact this
  exact ⟨ds[i], by simp [hi], h.2 i x ds[i] hx (by simp [hi])⟩

theorem VRs.map {ρ : Ren} {n : Scope} {ev EV : Operand → Value} {l : Array Operand} (h : ∀ x ∈ l, VR ρ n (ev x) (EV x)) : VRs ρ n (l.map ev) (l.map EV) := by
  refine ⟨by simp, fun i x y hx hy => ?_⟩
  simp only [Array.getElem?_map, Option.map_eq_some_iff] at hx hy
  obtain ⟨u, hu, rfl⟩ := hx
  obtain ⟨u', hu', rfl⟩ := hy
  rw [hu] at hu'
  cases hu'
  exact h u (Array.mem_of_getElem? hu)

theorem VRs.extract {ρ : Ren} {n : Scope} {cs ds : Array Value} (h : VRs ρ n cs ds) (a b : Nat) : VRs ρ n (cs.extract a b) (ds.extract a b) := by
  refine ⟨by simp [h.1], fun i x y hx hy => ?_⟩
  rw [Array.getElem?_extract] at hx hy
  split at hx
  · split at hy
    · exact h.2 _ x y hx hy
    · cases hy
  · cases hx

theorem VR.agg_inv {ρ : Ren} {n : Scope} {cs : Array Value} {V : Value} (h : VR ρ n (.agg cs) V) : ∃ ds, V = .agg ds ∧ VRs ρ n cs ds := by
  cases h with
  | scalar h => simp [Go.Ab.scalar] at h
  | agg hc h => exact ⟨_, rfl, hc, h⟩

theorem VR.iface_inv {ρ : Ren} {n : Scope} {t : TypeId} {v V : Value} (h : VR ρ n (.iface t v) V) : ∃ V', V = .iface t V' ∧ VR ρ n v V' := by
  cases h with
  | scalar h => simp [Go.Ab.scalar] at h
  | iface h => exact ⟨_, rfl, h⟩

theorem VR.ptr_inv {ρ : Ren} {n : Scope} {a : Addr} {V : Value} (h : VR ρ n (.pointer (some a)) V) : ∃ A, V = .pointer (some A) ∧ AR ρ n a A := by
  cases h with
  | scalar h => simp [Go.Ab.scalar] at h
  | ptr h => exact ⟨_, rfl, h⟩

theorem VR.map_inv {ρ : Ren} {n : Scope} {r : Nat} {V : Value} (h : VR ρ n (.map (some r)) V) : V = .map (some (ρ r).blk) ∧ n r := by
  cases h with
  | scalar h => simp [Go.Ab.scalar] at h
  | map h hr => exact ⟨by rw [hr], h⟩

theorem VR.func_inv {ρ : Ren} {n : Scope} {f : FuncId} {fs cs : Array Value} {V : Value} (h : VR ρ n (.func (.func f) fs cs) V) : ∃ gs ds, V = .func (.func f) gs ds ∧ VRs ρ n fs gs ∧ VRs ρ n cs ds := by
  cases h with
  | scalar h => simp [Go.Ab.scalar] at h
  | func hf h1 hc h2 => exact ⟨_, _, rfl, ⟨hf, h1⟩, ⟨hc, h2⟩⟩

theorem VR.tuple_inv {ρ : Ren} {n : Scope} {cs : Array Value} {V : Value} (hs : 2 ≤ cs.size) (h : VR ρ n (.tuple cs) V) : ∃ ds, V = .tuple ds ∧ VRs ρ n cs ds := by
  generalize hv : Value.tuple cs = v at h
  cases h with
  | scalar h => subst hv; simp [Go.Ab.scalar] at h
  | tuple hc h => cases hv; exact ⟨_, rfl, hc, h⟩
  | junk h => simp only [Go.Ab.junk, Value.tuple.injEq] at hv; subst hv; simp at hs
  | _ => cases hv

theorem UNK_le_unk (u : Nat) : Nat.ble UNK (unk u) = true := by simp [unk]

theorem unk_inj {u v : Nat} (h : unk u = unk v) : u = v := by unfold unk at h; omega

/-- A slice, exact. -/
theorem VR.slice_inv {ρ : Ren} {n : Scope} {a : Addr} {l c : Nat} {V : Value} (h : VR ρ n (.slice (some a) l c) V) (hc : c < UNK) : ∃ A, V = .slice (some A) l c ∧ n a.block ∧ (AR ρ n a A ∨ c = 0) ∧ l ≤ c := by
  generalize hv : Value.slice (some a) l c = v at h
  cases h with
  | scalar h => subst hv; simp [Go.Ab.scalar] at h
  | slice hb h hl _ => cases hv; exact ⟨_, rfl, hb, h, hl⟩
  | sliceU h hl hr => cases hv; exact absurd hc (by unfold unk; omega)
  | sliceZ h => cases hv; exact absurd hc (by unfold unk; omega)
  | _ => cases hv

theorem VR.sliceU_inv {ρ : Ren} {n : Scope} {a : Addr} {l u : Nat} {V : Value} (h : VR ρ n (.slice (some a) l (unk u)) V) :
    n a.block ∧ ∃ A c, V = .slice (some A) l c ∧ ((AR ρ n a A ∧ l ≤ c ∧ A.off + c * u ≤ (ρ a.block).lim) ∨ (l = 0 ∧ c = 0)) := by
  generalize hv : Value.slice (some a) l (unk u) = v at h
  cases h with
  | scalar h => subst hv; simp [Go.Ab.scalar] at h
  | slice hb h hl hc => cases hv; exact absurd hc (by unfold unk; omega)
  | sliceU h hl hr =>
    rename_i a' A l' c u'
    injection hv with h1 h2 h3
    cases h1; cases h2; have := unk_inj h3; subst this
    exact ⟨h.1, _, _, rfl, .inl ⟨h, hl, hr⟩⟩
  | sliceZ h => injection hv with h1 h2 h3; cases h1; cases h2; exact ⟨h, _, _, rfl, .inr ⟨rfl, rfl⟩⟩
  | _ => cases hv

/-- Any slice: its length is the same. -/
theorem VR.slice_any {ρ : Ren} {n : Scope} {a : Addr} {l c : Nat} {V : Value} (h : VR ρ n (.slice (some a) l c) V) :
    n a.block ∧ ∃ A c', V = .slice (some A) l c' ∧ l ≤ c' ∧ (0 < l → AR ρ n a A) := by
  generalize hv : Value.slice (some a) l c = v at h
  cases h with
  | scalar h => subst hv; simp [Go.Ab.scalar] at h
  | slice hb h hl hc => cases hv; exact ⟨hb, _, _, rfl, hl, fun h0 => h.resolve_right (by omega)⟩
  | sliceU h hl hr => cases hv; exact ⟨h.1, _, _, rfl, hl, fun _ => h⟩
  | sliceZ h => cases hv; exact ⟨h, _, _, rfl, Nat.le_refl _, fun h => absurd h (by omega)⟩
  | _ => cases hv

theorem VR.nilslice {ρ : Ren} {n : Scope} {l c : Nat} {V : Value} (h : VR ρ n (.slice none l c) V) : V = .slice none 0 0 ∧ l = 0 ∧ c = 0 := by
  cases h with
  | scalar h => simp [Go.Ab.scalar] at h; obtain ⟨rfl, rfl⟩ := h; exact ⟨rfl, rfl, rfl⟩

theorem VR.int_inv {ρ : Ren} {n : Scope} {k : IntKind} {i : Int} {V : Value} (h : VR ρ n (.int k i) V) : V = .int k i := VR.scalar_eq rfl h
theorem VR.bool_inv {ρ : Ren} {n : Scope} {b : Bool} {V : Value} (h : VR ρ n (.bool b) V) : V = .bool b := VR.scalar_eq rfl h
theorem VR.string_inv {ρ : Ren} {n : Scope} {s : ByteArray} {V : Value} (h : VR ρ n (.string s) V) : V = .string s := VR.scalar_eq rfl h

theorem VR.undef {ρ : Ren} {n : Scope} : VR ρ n Go.undef Go.undef := .tuple rfl (fun i x y hx _ => by simp at hx)

theorem isAggT_run {P : Program} {t : TypeId} {b : Bool} (h : isAggT P t = some b) (w : World) : (isAgg t).run P w = .ok b w := by
  unfold isAggT at h
  unfold isAgg underlying
  cases hu : P.underlying t with
  | none => simp [hu] at h
  | some d => cases d <;> simp [hu] at h <;> subst h <;> simp [hu]

theorem szOf_run {P : Program} {t : TypeId} {n : Nat} (h : szOf P t = some n) (w : World) : (sizeOf t).run P w = .ok n w := by
  unfold szOf at h
  simp only [Option.map_eq_some_iff] at h
  obtain ⟨i, hi, rfl⟩ := h
  simp [sizeOf, typeInfo, hi]

theorem zeroOf_run {P : Program} {t : TypeId} {v : Value} (h : zeroOf P t = some v) (w : World) : (zeroValue t).run P w = .ok v w := by
  unfold zeroOf at h
  simp only [Option.bind_eq_some_iff] at h
  obtain ⟨i, hi, hz⟩ := h
  simp [zeroValue, typeInfo, hi, hz]

theorem underlying_run {P : Program} {t : TypeId} {d : TypeDesc} (h : P.underlying t = some d) (w : World) : (underlying t).run P w = .ok d w := by
  simp [underlying, h]

theorem partP_run {P : Program} {t : TypeId} {cs ds : Array Value} {off : Nat} {v : Value} {ρ : Ren} {n : Scope} (h : partP P t cs off = some v) (hr : VRs ρ n cs ds) :
    ∃ V, VR ρ n v V ∧ ∀ w, (part t ds off).run P w = .ok V w := by
  unfold partP at h
  cases ha : isAggT P t with
  | none => simp [ha] at h
  | some b =>
    cases b with
    | true =>
      simp only [ha, Option.map_eq_some_iff] at h
      obtain ⟨m, hm, rfl⟩ := h
      have := hr.extract off (off + m)
      exact ⟨.agg (ds.extract off (off + m)), .agg this.1 this.2, fun w => by simp [part, isAggT_run ha, szOf_run hm]⟩
    | false =>
      simp only [ha] at h
      obtain ⟨y, hy, hv⟩ := hr.get h
      exact ⟨y, hv, fun w => by simp [part, isAggT_run ha, hy]⟩

theorem AR.add {ρ : Ren} {n : Scope} {a A : Addr} (h : AR ρ n a A) (k : Nat) : AR ρ n (addOff a k) (A.add k) := by
  obtain ⟨h1, h2, rfl⟩ := h
  refine ⟨h1, rfl, ?_⟩
  unfold Addr.add addOff
  split
  · rename_i hk; subst hk; simp
  · simp [Nat.add_assoc]

/-! ### Slicing -/
theorem within_inv {v V : Value} {n m : Nat} {ρ : Ren} {b : Scope} (h : within v n = some m) (hr : VR ρ b v V) : ∃ k, V = .int k (m : Int) ∧ m ≤ n := by
  unfold within at h
  cases v with
  | int k i =>
    have := hr.int_inv
    subst this
    simp only at h
    cases hc : decide (0 ≤ i) && Nat.ble i.toNat n with
    | false => simp [hc] at h
    | true =>
      simp only [hc, cond_true, Option.some.injEq] at h
      simp only [Bool.and_eq_true, decide_eq_true_eq, Nat.ble_eq] at hc
      subst h
      exact ⟨k, by rw [Int.toNat_of_nonneg hc.1], hc.2⟩
  | _ => simp at h

theorem sliceBound_run {P : Program} {k : IntKind} {m y : Nat} (h : m ≤ y) (c : BoundsCode) (w : World) : (Instr.sliceBound (.int k (m : Int)) y c).run P w = .ok m w := by
  simp [Instr.sliceBound, asIntOf, h]

theorem boundOf_inv {ev EV : Operand → Value} {d n m : Nat} {lo : Option Operand} {ρ : Ren} {b : Scope} (hv : ∀ x, lo = some x → VR ρ b (ev x) (EV x)) (h : boundOf ev d n lo = some m) :
    (lo = none ∧ m = d) ∨ ∃ x k, lo = some x ∧ EV x = .int k (m : Int) ∧ m ≤ n := by
  cases lo with
  | none => simp only [boundOf, Option.some.injEq] at h; exact .inl ⟨rfl, h.symm⟩
  | some x =>
    simp only [boundOf] at h
    obtain ⟨k, hk, hm⟩ := within_inv h (hv x rfl)
    exact .inr ⟨x, k, rfl, hk, hm⟩

theorem sliceBounds_run {P : Program} {isSlice : Bool} {len cap l h m : Nat} {lo hi mx : Option Value}
    (hm : (mx = none ∧ m = cap) ∨ ∃ k, mx = some (.int k (m : Int)) ∧ m ≤ cap)
    (hh : (hi = none ∧ mx = none ∧ h = len) ∨ ∃ k, hi = some (.int k (h : Int)) ∧ h ≤ m)
    (hl : (lo = none ∧ l = 0) ∨ ∃ k, lo = some (.int k (l : Int)) ∧ l ≤ h) (w : World) : (Instr.sliceBounds isSlice len cap lo hi mx).run P w = .ok (l, h, m) w := by
  rcases hm with ⟨rfl, rfl⟩ | ⟨km, rfl, hm⟩ <;> rcases hh with ⟨rfl, h0, rfl⟩ | ⟨kh, rfl, hh⟩ <;> rcases hl with ⟨rfl, rfl⟩ | ⟨kl, rfl, hl⟩ <;>
    first
    | (cases h0; done)
    | simp [Instr.sliceBounds, sliceBound_run, *]

theorem sliceAt_array {P : Program} {t elem : TypeId} {n size l h m : Nat} {A : Addr} {lo hi mx : Option Value} (ht : P.underlying t = some (.array n elem)) (hs : szOf P elem = some size)
    (hb : ∀ w, (Instr.sliceBounds false n n lo hi mx).run P w = .ok (l, h, m) w) (w : World) :
    (Instr.sliceAt t (.pointer (some A)) lo hi mx).run P w = .ok (.slice (some (if m = l then A else A.add (l * size))) (h - l) (m - l)) w := by
  simp [Instr.sliceAt, underlying_run ht, Instr.sureAddr, hb, szOf_run hs]

theorem sliceAt_slice {P : Program} {t elem : TypeId} {len cap size l h m : Nat} {A : Option Addr} {lo hi mx : Option Value} (ht : P.underlying t = some (.slice elem)) (hs : szOf P elem = some size)
    (hb : ∀ w, (Instr.sliceBounds true len cap lo hi mx).run P w = .ok (l, h, m) w) (w : World) :
    (Instr.sliceAt t (.slice A len cap) lo hi mx).run P w = .ok (.slice (if m = l then A else A.map (·.add (l * size))) (h - l) (m - l)) w := by
  simp [Instr.sliceAt, underlying_run ht, Instr.slice, hb, szOf_run hs]

theorem sliceAt_string {P : Program} {t : TypeId} {s : ByteArray} {l h m : Nat} {lo hi : Option Value} (ht : P.underlying t = some .string)
    (hb : ∀ w, (Instr.sliceBounds false s.size s.size lo hi none).run P w = .ok (l, h, m) w) (w : World) :
    (Instr.sliceAt t (.string s) lo hi none).run P w = .ok (.string (s.extract l h)) w := by
  simp [Instr.sliceAt, underlying_run ht, Instr.slice, hb]

section
variable {P : Program} {ev EV : Operand → Value} {ρ : Ren} {b : Scope}

theorem loOf {lo : Option Operand} {l h : Nat} (hv : ∀ x, lo = some x → VR ρ b (ev x) (EV x)) (hl : boundOf ev 0 h lo = some l) :
    l ≤ h ∧ ((lo.map EV = none ∧ l = 0) ∨ ∃ k, lo.map EV = some (.int k (l : Int)) ∧ l ≤ h) := by
  rcases boundOf_inv hv hl with ⟨rfl, rfl⟩ | ⟨x, k, rfl, hx, hle⟩
  · exact ⟨Nat.zero_le _, .inl ⟨rfl, rfl⟩⟩
  · exact ⟨hle, .inr ⟨k, by simp [hx], hle⟩⟩

/-- The upper bounds, where the capacity is known. -/
theorem hmOf {hi mx : Option Operand} {len cap : Nat} {hm : Nat × Nat} (hvh : ∀ x, hi = some x → VR ρ b (ev x) (EV x)) (hvm : ∀ x, mx = some x → VR ρ b (ev x) (EV x)) (hlc : len ≤ cap)
    (h : hmP ev len cap hi mx = some hm) :
    hm.1 ≤ hm.2 ∧ hm.2 ≤ cap ∧ ((mx.map EV = none ∧ hm.2 = cap) ∨ ∃ k, mx.map EV = some (.int k (hm.2 : Int)) ∧ hm.2 ≤ cap) ∧
      ((hi.map EV = none ∧ mx.map EV = none ∧ hm.1 = len) ∨ ∃ k, hi.map EV = some (.int k (hm.1 : Int)) ∧ hm.1 ≤ hm.2) := by
  unfold hmP at h
  cases mx with
  | none =>
    simp only [Option.map_eq_some_iff] at h
    obtain ⟨u, hu, rfl⟩ := h
    rcases boundOf_inv hvh hu with ⟨rfl, rfl⟩ | ⟨x, k, rfl, hx, hle⟩
    · exact ⟨hlc, Nat.le_refl _, .inl ⟨rfl, rfl⟩, .inl ⟨rfl, rfl, rfl⟩⟩
    · exact ⟨hle, Nat.le_refl _, .inl ⟨rfl, rfl⟩, .inr ⟨k, by simp [hx], hle⟩⟩
  | some mo =>
    simp only [Option.bind_eq_some_iff, Option.map_eq_some_iff] at h
    obtain ⟨m, hmm, ho, rfl, u, hu, rfl⟩ := h
    obtain ⟨k, hk, hle⟩ := within_inv hmm (hvm mo rfl)
    obtain ⟨k', hk', hle'⟩ := within_inv hu (hvh ho rfl)
    exact ⟨hle', hle, .inr ⟨k, by simp [hk], hle⟩, .inr ⟨k', by simp [hk'], hle'⟩⟩

theorem sliceP_run {t : TypeId} {x X v : Value} {lo hi mx : Option Operand} (hx : VR ρ b x X) (hvl : ∀ x, lo = some x → VR ρ b (ev x) (EV x)) (hvh : ∀ x, hi = some x → VR ρ b (ev x) (EV x))
    (hvm : ∀ x, mx = some x → VR ρ b (ev x) (EV x)) (h : sliceP P ev t x lo hi mx = some v) :
    ∃ V, VR ρ b v V ∧ ∀ w, (Instr.sliceAt t X (lo.map EV) (hi.map EV) (mx.map EV)).run P w = .ok V w := by
  unfold sliceP at h
  split at h
  · -- a string
    rename_i s ht
    have := hx.string_inv
    subst this
    split at h
    · cases h
    · rename_i hmx
      have : mx = none := by cases mx <;> simp_all
      subst this
      simp only [Option.bind_eq_some_iff, Option.map_eq_some_iff] at h
      obtain ⟨hh, h1, l, h2, rfl⟩ := h
      obtain ⟨hl, hlo⟩ := loOf hvl h2
      refine ⟨.string (s.extract l hh), .scalar rfl, fun w => ?_⟩
      refine sliceAt_string ht (l := l) (h := hh) (m := s.size) (fun w => sliceBounds_run (.inl ⟨rfl, rfl⟩) ?_ hlo w) w
      rcases boundOf_inv hvh h1 with ⟨rfl, rfl⟩ | ⟨x, k, rfl, hx, hle⟩
      · exact .inl ⟨rfl, rfl, rfl⟩
      · exact .inr ⟨k, by simp [hx], hle⟩
  · -- a slice
    rename_i elem a len cap ht
    simp only [Option.bind_eq_some_iff] at h
    obtain ⟨size, hs, h⟩ := h
    split at h
    · rename_i hcap
      split at h
      · cases h
      · rename_i hcu
        have hcu : cap = unk size := by simpa using hcu
        subst hcu
        cases a with
        | none => obtain ⟨_, _, h0⟩ := hx.nilslice; exact absurd h0 (by unfold unk UNK; omega)
        | some a =>
          obtain ⟨hab, A, c, rfl, hc⟩ := hx.sliceU_inv
          have hlc : len ≤ c := by rcases hc with hc | ⟨rfl, rfl⟩; exact hc.2.1; exact Nat.le_refl _
          cases mx with
          | none =>
            simp only [Option.bind_eq_some_iff, Option.map_eq_some_iff] at h
            obtain ⟨hh, h1, l, h2, rfl⟩ := h
            obtain ⟨hl, hlo⟩ := loOf hvl h2
            have hhl : hh ≤ len := by rcases boundOf_inv hvh h1 with ⟨_, rfl⟩ | ⟨_, _, _, _, hle⟩; exact Nat.le_refl _; exact hle
            refine ⟨_, ?_, fun w => sliceAt_slice ht hs (l := l) (h := hh) (m := c) (fun w => sliceBounds_run (.inl ⟨rfl, rfl⟩) ?_ hlo w) w⟩
            · by_cases hcl : c = l
              · have : hh - l = 0 := by omega
                rw [if_pos hcl, this, hcl, Nat.sub_self]
                exact .sliceZ hab
              · rw [if_neg hcl]
                rcases hc with ⟨har, _, hr⟩ | ⟨rfl, rfl⟩
                · refine .sliceU (har.add _) (by omega) ?_
                  have hA : (A.add (l * size)).off = A.off + l * size := by unfold Addr.add; split <;> simp_all
                  have hmul : (c - l) * size + l * size = c * size := by rw [← Nat.add_mul]; congr 1; omega
                  simp only [addOff]
                  rw [hA]
                  omega
                · exact absurd (by omega) hcl
            · rcases boundOf_inv hvh h1 with ⟨rfl, rfl⟩ | ⟨x, k, rfl, hx, hle⟩
              · exact .inl ⟨rfl, rfl, rfl⟩
              · exact .inr ⟨k, by simp [hx], by omega⟩
          | some mo =>
            simp only [Option.bind_eq_some_iff] at h
            obtain ⟨m, h0, h⟩ := h
            split at h
            · cases h
            · rename_i hmu
              simp only [Option.bind_eq_some_iff, Option.map_eq_some_iff] at h
              obtain ⟨ho, rfl, hh, h1, l, h2, rfl⟩ := h
              obtain ⟨hl, hlo⟩ := loOf hvl h2
              obtain ⟨k, hk, hle⟩ := within_inv h0 (hvm mo rfl)
              obtain ⟨k', hk', hle'⟩ := within_inv h1 (hvh ho rfl)
              have hmu : m < UNK := by have := hmu; simp [Nat.blt] at this; omega
              refine ⟨_, ?_, fun w => sliceAt_slice ht hs (l := l) (h := hh) (m := m) (fun w => sliceBounds_run (.inr ⟨k, by simp [hk], by omega⟩) (.inr ⟨k', by simp [hk'], hle'⟩) hlo w) w⟩
              by_cases hml : m = l
              · rw [if_pos hml, if_pos hml]
                exact .slice hab (.inr (by omega)) (by omega) (by omega)
              · rw [if_neg hml, if_neg hml]
                rcases hc with ⟨har, _, hr⟩ | ⟨rfl, rfl⟩
                · exact .slice hab (.inl (har.add _)) (by omega) (by omega)
                · exact .slice hab (.inr (by omega)) (by omega) (by omega)
    · rename_i hcap
      have hcap : cap < UNK := by simpa using hcap
      simp only [Option.bind_eq_some_iff] at h
      obtain ⟨hm, h1, h⟩ := h
      simp only [Option.map_eq_some_iff] at h
      obtain ⟨l, h2, rfl⟩ := h
      obtain ⟨hl, hlo⟩ := loOf hvl h2
      cases a with
      | none =>
        obtain ⟨rfl, rfl, rfl⟩ := hx.nilslice
        obtain ⟨q1, q2, q3, q4⟩ := hmOf hvh hvm (Nat.le_refl _) h1
        refine ⟨_, ?_, fun w => sliceAt_slice ht hs (l := l) (h := hm.1) (m := hm.2) (fun w => sliceBounds_run q3 q4 hlo w) w⟩
        have e1 : hm.2 = 0 := by omega
        have e2 : hm.1 = 0 := by omega
        have e3 : l = 0 := by omega
        simp only [e1, e2, e3]
        exact .scalar rfl
      | some a =>
        obtain ⟨A, rfl, hab, har, hlc⟩ := hx.slice_inv hcap
        obtain ⟨q1, q2, q3, q4⟩ := hmOf hvh hvm hlc h1
        refine ⟨_, ?_, fun w => sliceAt_slice ht hs (l := l) (h := hm.1) (m := hm.2) (fun w => sliceBounds_run q3 q4 hlo w) w⟩
        by_cases hml : hm.2 = l
        · rw [if_pos hml, if_pos hml]
          exact .slice hab (.inr (by omega)) (by omega) (by omega)
        · rw [if_neg hml, if_neg hml]
          refine .slice hab ?_ (by omega) (by omega)
          exact .inl ((har.resolve_right (by omega)).add _)
  · -- an array
    rename_i n elem a ht
    simp only [Option.bind_eq_some_iff] at h
    obtain ⟨size, hs, h⟩ := h
    split at h
    · cases h
    · rename_i hnu
      have hnu : n < UNK := by have := hnu; simp [Nat.blt] at this; omega
      simp only [Option.bind_eq_some_iff] at h
      obtain ⟨hm, h1, h⟩ := h
      simp only [Option.map_eq_some_iff] at h
      obtain ⟨l, h2, rfl⟩ := h
      obtain ⟨hl, hlo⟩ := loOf hvl h2
      obtain ⟨A, rfl, har⟩ := hx.ptr_inv
      obtain ⟨q1, q2, q3, q4⟩ := hmOf hvh hvm (Nat.le_refl _) h1
      refine ⟨_, ?_, fun w => sliceAt_array ht hs (l := l) (h := hm.1) (m := hm.2) (fun w => sliceBounds_run q3 q4 hlo w) w⟩
      by_cases hml : hm.2 = l
      · rw [if_pos hml, if_pos hml]
        exact .slice har.1 (.inl har) (by omega) (by omega)
      · rw [if_neg hml, if_neg hml]
        exact .slice har.1 (.inl (har.add _)) (by omega) (by omega)
  · cases h
end

/-! ### Building aggregates -/
theorem VR.cells {ρ : Ren} {n : Scope} {v V : Value} (h : VR ρ n v V) : VRs ρ n v.cells V.cells := by
  have one : ∀ x y : Value, VR ρ n x y → VRs ρ n #[x] #[y] := fun x y hxy => ⟨rfl, fun i a b ha hb => by
    cases i with
    | zero => simp at ha hb; subst ha; subst hb; exact hxy
    | succ i => simp at ha⟩
  cases h with
  | agg hc h => exact ⟨hc, h⟩
  | scalar h =>
    cases v <;> first | exact one _ _ (.scalar h) | (simp [Go.Ab.scalar] at h)
  | junk h =>
    cases V <;> first | exact one _ _ (.junk h) | (simp [oneCell] at h)
  | ptr h => exact one _ _ (.ptr h)
  | slice a b c d => exact one _ _ (.slice a b c d)
  | sliceU a b c => exact one _ _ (.sliceU a b c)
  | sliceZ a => exact one _ _ (.sliceZ a)
  | map a b => exact one _ _ (.map a b)
  | func a b c d => exact one _ _ (.func a b c d)
  | iface a => exact one _ _ (.iface a)
  | tuple a b => exact one _ _ (.tuple a b)

theorem VRs.set {ρ : Ren} {n : Scope} {cs ds : Array Value} {x y : Value} (h : VRs ρ n cs ds) (hxy : VR ρ n x y) (i : Nat) : VRs ρ n (cs.setIfInBounds i x) (ds.setIfInBounds i y) := by
  refine ⟨by simp [h.1], fun j a b ha hb => ?_⟩
  rw [Array.getElem?_setIfInBounds] at ha hb
  rw [h.1] at ha
  split at ha
  · rename_i hij
    rw [if_pos hij] at hb
    split at ha
    · rename_i hlt
      rw [if_pos hlt] at hb
      cases ha; cases hb; exact hxy
    · cases ha
  · rename_i hij
    rw [if_neg hij] at hb
    exact h.2 j a b ha hb

theorem VRs.fill1 {ρ : Ren} {n : Scope} {off : Nat} : ∀ (l L : List (Value × Nat)) (cs ds : Array Value), l.map (·.2) = L.map (·.2) → (∀ (i : Nat) (x y : Value × Nat), l[i]? = some x → L[i]? = some y → VR ρ n x.1 y.1) → VRs ρ n cs ds →
    VRs ρ n (l.foldl (fun cs (p : Value × Nat) => cs.setIfInBounds (off + p.2) p.1) cs) (L.foldl (fun cs (p : Value × Nat) => cs.setIfInBounds (off + p.2) p.1) ds)
  | [], [], cs, ds, _, _, h => h
  | [], _ :: _, _, _, h, _, _ => by simp at h
  | _ :: _, [], _, _, h, _, _ => by simp at h
  | x :: l, y :: L, cs, ds, he, hv, h => by
    simp only [List.map_cons, List.cons.injEq] at he
    simp only [List.foldl_cons]
    refine VRs.fill1 l L _ _ he.2 (fun i a b ha hb => hv (i + 1) a b (by simpa using ha) (by simpa using hb)) ?_
    rw [he.1]
    exact h.set (hv 0 x y rfl rfl) _

theorem fill_rel {ρ : Ren} {n : Scope} {place : Nat → Option (Nat × Nat)} : ∀ (l L : List (Nat × Value)) (cs ds r : Array Value), l.map (·.1) = L.map (·.1) → (∀ (i : Nat) (x y : Nat × Value), l[i]? = some x → L[i]? = some y → VR ρ n x.2 y.2) → VRs ρ n cs ds →
    Instr.fill place cs l = some r → ∃ R, Instr.fill place ds L = some R ∧ VRs ρ n r R
  | [], [], cs, ds, r, _, _, h, hf => by simp only [Instr.fill, Option.some.injEq] at hf; subst hf; exact ⟨ds, rfl, h⟩
  | [], _ :: _, _, _, _, h, _, _, _ => by simp at h
  | _ :: _, [], _, _, _, h, _, _, _ => by simp at h
  | (i, v) :: l, (j, V) :: L, cs, ds, r, he, hv, h, hf => by
    simp only [List.map_cons, List.cons.injEq] at he
    obtain ⟨rfl, he⟩ := he
    have hvV : VR ρ n v V := hv 0 _ _ rfl rfl
    have hc := hvV.cells
    simp only [Instr.fill] at hf ⊢
    cases hp : place i with
    | none => simp [hp] at hf
    | some os =>
      obtain ⟨off, size⟩ := os
      simp only [hp] at hf ⊢
      rw [← hc.1, ← h.1]
      split at hf
      · cases hf
      · rename_i hcond
        rw [if_neg hcond]
        refine fill_rel l L _ _ r he (fun i a b ha hb => hv (i + 1) a b (by simpa using ha) (by simpa using hb)) ?_ hf
        rw [← Array.foldl_toList, ← Array.foldl_toList]
        refine VRs.fill1 _ _ _ _ ?_ ?_ h
        · simp [Array.toList_zipIdx, hc.1]
        · intro i x y hx hy
          simp only [Array.toList_zipIdx, List.getElem?_zipIdx, Option.map_eq_some_iff] at hx hy
          obtain ⟨a, ha, rfl⟩ := hx
          obtain ⟨b, hb, rfl⟩ := hy
          exact hc.2 i a b (by simpa using ha) (by simpa using hb)

theorem places_run {P : Program} : ∀ (l : List Field) (r : List (Nat × Nat)), placesOf P l = some r → ∀ w, (l.mapM (fun f => Prod.mk f.offset <$> sizeOf f.type) : Sem (List (Nat × Nat))).run P w = .ok r w
  | [], r, h, w => by simp only [placesOf, Option.some.injEq] at h; subst h; simp
  | f :: fs, r, h, w => by
    simp only [placesOf, Option.bind_eq_some_iff, Option.map_eq_some_iff] at h
    obtain ⟨n, hn, l, hl, rfl⟩ := h
    simp [List.mapM_cons, szOf_run hn, places_run fs l hl]

theorem parts_rel {ρ : Ren} {n : Scope} {ev EV : Operand → Value} {parts : Array (Nat × Operand)} (h : ∀ x ∈ (parts.toList.map (·.2)), VR ρ n (ev x) (EV x)) :
    ((parts.map fun p => (p.1, ev p.2)).toList.map (·.1) = (parts.map fun p => (p.1, EV p.2)).toList.map (·.1)) ∧
    ∀ (i : Nat) (x y : Nat × Value), (parts.map fun p => (p.1, ev p.2)).toList[i]? = some x → (parts.map fun p => (p.1, EV p.2)).toList[i]? = some y → VR ρ n x.2 y.2 := by
  refine ⟨by simp, fun i x y hx hy => ?_⟩
  simp only [Array.toList_map, List.getElem?_map, Option.map_eq_some_iff] at hx hy
  obtain ⟨a, ha, rfl⟩ := hx
  obtain ⟨b, hb, rfl⟩ := hy
  rw [ha] at hb; cases hb
  exact h a.2 (List.mem_map.2 ⟨a, List.mem_of_getElem? ha, rfl⟩)

/-! ### Comparisons with nil -/
theorem nilCmp_run {P : Program} {ρ : Ren} {n : Scope} {t : TypeId} {x y : Operand} {a b A B v : Value} {neg : Bool} {op : BinOp} (hop : op = if neg then .neq else .eql)
    (ha : VR ρ n a A) (hb : VR ρ n b B) (h : nilCmp P t a b neg = some v) : scalar v = true ∧ ∀ w, (do eqGuard op t x y A B; binOp op t A B : Sem Value).run P w = .ok v w := by
  subst hop
  have go : ∀ (A B : Value), (eqGuard .eql t x y A B = pure ()) → (eqGuard .neq t x y A B = pure ()) → (binOp .eql t A B = (do pure (.bool (← Op.equal t A B)))) → (binOp .neq t A B = (do pure (.bool (!(← Op.equal t A B))))) →
      (∀ d w, (Op.equalIn (d + 1) t A B).run P w = .ok false w) → v = .bool neg →
      scalar v = true ∧ ∀ w, (do eqGuard (if neg then .neq else .eql) t x y A B; binOp (if neg then .neq else .eql) t A B : Sem Value).run P w = .ok v w := by
    intro A B g1 g2 e1 e2 he hv
    subst hv
    refine ⟨rfl, fun w => ?_⟩
    have he' : ∀ w, (Op.equal t A B).run P w = .ok false w := fun w => he 9999 w
    cases neg
    · simp [g1, e1, he']
    · simp [g2, e2, he']
  unfold nilCmp at h
  split at h
  all_goals (first | (cases h; done) | skip)
  all_goals
    rename_i ht
    cases h
  · obtain ⟨A', rfl, _⟩ := ha.ptr_inv
    rw [hb.scalar_eq rfl]
    exact go _ _ rfl rfl rfl rfl (fun d w => by simp [Op.equalIn, underlying_run ht]) rfl
  · obtain ⟨A', rfl, _⟩ := hb.ptr_inv
    rw [ha.scalar_eq rfl]
    exact go _ _ rfl rfl rfl rfl (fun d w => by simp [Op.equalIn, underlying_run ht]) rfl
  · obtain ⟨_, A', c', rfl, _⟩ := ha.slice_any
    rw [(hb.nilslice).1]
    exact go _ _ rfl rfl rfl rfl (fun d w => by simp [Op.equalIn, underlying_run ht]) rfl
  · obtain ⟨_, A', c', rfl, _⟩ := hb.slice_any
    rw [(ha.nilslice).1]
    exact go _ _ rfl rfl rfl rfl (fun d w => by simp [Op.equalIn, underlying_run ht]) rfl
  · obtain ⟨rfl, _⟩ := ha.map_inv
    rw [hb.scalar_eq rfl]
    exact go _ _ rfl rfl rfl rfl (fun d w => by simp [Op.equalIn, underlying_run ht]) rfl
  · obtain ⟨rfl, _⟩ := hb.map_inv
    rw [ha.scalar_eq rfl]
    exact go _ _ rfl rfl rfl rfl (fun d w => by simp [Op.equalIn, underlying_run ht]) rfl
  · rw [hb.scalar_eq rfl]
    cases ha with
    | scalar h => simp [scalar] at h
    | func => exact go _ _ rfl rfl rfl rfl (fun d w => by simp [Op.equalIn, underlying_run ht]) rfl
  · rw [ha.scalar_eq rfl]
    cases hb with
    | scalar h => simp [scalar] at h
    | func => exact go _ _ rfl rfl rfl rfl (fun d w => by simp [Op.equalIn, underlying_run ht]) rfl
  · obtain ⟨A', rfl, _⟩ := ha.iface_inv
    rw [hb.scalar_eq rfl]
    exact go _ _ rfl rfl rfl rfl (fun d w => by simp [Op.equalIn, underlying_run ht]) rfl
  · obtain ⟨A', rfl, _⟩ := hb.iface_inv
    rw [ha.scalar_eq rfl]
    exact go _ _ rfl rfl rfl rfl (fun d w => by simp [Op.equalIn, underlying_run ht]) rfl

theorem binP_run {P : Program} {ρ : Ren} {n : Scope} {op : BinOp} {t : TypeId} {x y : Operand} {a b A B v : Value}
    (ha : VR ρ n a A) (hb : VR ρ n b B) (h : binP P op t x y a b = some v) : scalar v = true ∧ ∀ w, (do eqGuard op t x y A B; binOp op t A B : Sem Value).run P w = .ok v w := by
  unfold binP at h
  split at h
  · rename_i hf
    simp only [Bool.and_eq_true] at hf
    rw [ha.flat_eq hf.1, hb.flat_eq hf.2]
    exact pureS_run h
  · split at h
    · exact nilCmp_run (neg := false) rfl ha hb h
    · exact nilCmp_run (neg := true) rfl ha hb h
    · cases h

end Go.Ab
