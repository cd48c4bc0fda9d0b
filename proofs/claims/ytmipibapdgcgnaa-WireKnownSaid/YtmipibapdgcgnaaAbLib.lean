/- The abstract machine: functions without a body. -/
import Derived.Test.YtmipibapdgcgnaaAbEval
import Derived.Lib.MakeNoZero
namespace Go.Ab
open Go

section
variable {P : Program} {ρ : Ren} {n : Scope} {B : Nat} {w : World}

theorem digits_one : ∀ (k t : Nat) (acc : Array Value), (∀ v ∈ acc, oneCell v = true) → ∀ v ∈ Extern.BytealgMakeNoZero.digits k t acc, oneCell v = true
  | 0, _, acc, h => by unfold Extern.BytealgMakeNoZero.digits; exact h
  | k + 1, t, acc, h => by
    rw [Extern.BytealgMakeNoZero.digits]
    refine digits_one k _ _ fun v hv => ?_
    rcases Array.mem_push.1 hv with hv | rfl
    · exact h v hv
    · rfl

/-- What 'internal/bytealg.MakeNoZero' makes. -/
theorem noZero_makes {k : FuncId} {ps : Array TypeId} {t e : TypeId} (ht : P.underlying t = some (.slice e)) (hcall : ∀ (Args : Array Value) (w : World), (callFunc k Args).run P w = ((Extern.BytealgMakeNoZero.makeNoZero ps #[t] Args).run P w).andThen fun v w => .ok (.value v) w)
    {i : Int} (h0 : 0 ≤ i) (h1 : i < 1099511627776) (hB : B ≤ w.heap.size) {Args : Array Value} (hA : VRs ρ n #[.int .i64 i] Args) :
    ∃ V w', (callFunc k Args).run P w = .ok (.value V) w' ∧ Makes B ρ n w (.cells true (List.replicate i.toNat junk)) (fun id => .slice (some ⟨id, 0, none⟩) i.toNat (unk 1)) V w' := by
  have := VRs.flat_eq (by rfl) hA
  subst this
  obtain ⟨q, rfl⟩ : ∃ q : Nat, i = (q : Int) := ⟨i.toNat, (Int.toNat_of_nonneg h0).symm⟩
  simp only [Int.toNat_natCast]
  have hdef : Extern.BytealgMakeNoZero.makeNoZero ps #[t] #[.int .i64 (q : Int)] =
      (do
        let .slice elem ← underlying t | stuck "bytealg.MakeNoZero: slice type expected"
        if (q : Int) < 0 || (q : Int) > 2 ^ 48 then runtimePanic (.error "makeslice: len out of range")
        let cap ← choose (.appendCap (q : Int).toNat 0 elem)
        askRoom cap
        let bytes ← choose (.extern "internal/bytealg.MakeNoZero.bytes" 0)
        let a ← newRow elem (Extern.BytealgMakeNoZero.digits cap bytes #[])
        pure (.slice (some a) (q : Int).toNat cap)) := rfl
  have hge := grownCap_ge w q 0 e
  have hrun : (Extern.BytealgMakeNoZero.makeNoZero ps #[t] #[.int .i64 (q : Int)]).run P w = .ok (.slice (some ⟨w.heap.size, 0, none⟩) q (grownCap w q 0 e))
      (w.drew.drew.alloc (.cells (Extern.BytealgMakeNoZero.digits (grownCap w q 0 e) ((Question.extern "internal/bytealg.MakeNoZero.bytes" 0).cut (w.tape (w.drawn + 1) (.extern "internal/bytealg.MakeNoZero.bytes" 0))) #[]) e)) := by
    rw [hdef]
    have h3 : ¬ (q : Int) < 0 := by omega
    have h4 : ¬ (281474976710656 : Int) < (q : Int) := by omega
    simp [run_underlying ht, h3, h4, Question.forced, newRow, grownCap]
  generalize hD : Extern.BytealgMakeNoZero.digits (grownCap w q 0 e) ((Question.extern "internal/bytealg.MakeNoZero.bytes" 0).cut (w.tape (w.drawn + 1) (.extern "internal/bytealg.MakeNoZero.bytes" 0))) #[] = D at hrun
  have hDs : D.size = grownCap w q 0 e := by rw [← hD, Lib.size_digits]; simp
  have hDo : ∀ v ∈ D, oneCell v = true := by rw [← hD]; exact digits_one _ _ _ fun v hv => by simp at hv
  refine ⟨_, _, by rw [hcall, hrun]; rfl, ⟨by simp, fun k hk => heap_alloc_old w.drew.drew _ k hk, rfl, rfl, rfl⟩, rfl, ⟨w.heap.size, 0, grownCap w q 0 e⟩, rfl, fun ρ' m id _ _ hm hid => ⟨?_, .sliceU (newPtr hm hid) hge (by rw [hid]; simp)⟩⟩
  refine ⟨by rw [hid]; exact hB, D, e, (0, 0), by rw [hid]; exact heap_alloc_new w.drew.drew _, by rw [hid]; exact hDs, fun o _ h => by simp at h, fun j v hj => ?_⟩
  rw [hid]
  have hj' := List.getElem?_eq_some_iff.1 hj
  obtain ⟨h3, h4⟩ := hj'
  simp only [List.length_replicate] at h3
  simp only [List.getElem_replicate] at h4
  subst h4
  have hlt : j < D.size := by omega
  exact ⟨D[j], by simp [hlt], .junk (hDo _ (Array.getElem_mem hlt))⟩

end
end Go.Ab
