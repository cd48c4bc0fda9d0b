/- The abstract machine: operations that write memory: stores, copies. -/
import Derived.Test.YtmipibapdgcgnaaAbA
import Derived.Laws.CopyRow
namespace Go.Ab
open Go

section
variable {P : Program} {ev EV : Operand → Value} {ρ ρ' : Ren} {n n' : Scope} {B G : Nat} {get : Get} {w w' : World}

theorem oneCell_eq (v : Value) : oneCell v = v.oneCell' := by cases v <;> rfl

theorem VR.oneCell {v V : Value} (h : VR ρ n v V) (ho : Go.Ab.oneCell v = true) : Go.Ab.oneCell V = true := by
  cases h <;> first | rfl | exact ho | (simp [Go.Ab.oneCell, Go.Ab.junk] at ho) | assumption

theorem run_storeRow (g o : Nat) (t : TypeId) (fz : Nat × Nat) : ∀ (vs : List Value) (i : Nat) (cur : Array Value) (w : World), w.heap[g]? = some (.cells cur t fz) → o + i + vs.length ≤ cur.size →
    (∀ k, k < cur.size → ¬ (fz.1 ≤ k ∧ k < fz.2)) → (∀ v ∈ vs, oneCell v = true) →
    (storeCells ⟨g, o, none⟩ vs i).run P w = .ok () (w.setRow g (cur.toList.take (o + i) ++ vs ++ cur.toList.drop (o + i + vs.length)).toArray)
  | [], i, cur, w, hg, _, _, _ => by
    simp only [storeCells, List.append_nil, List.length_nil, Nat.add_zero, List.take_append_drop, Array.toArray_toList]
    rw [setRow_self w g cur t fz hg]
    rfl
  | v :: rest, i, cur, w, hg, hl, hz, h1 => by
    have hi : o + i < cur.size := by simp at hl; omega
    have hcell : w.cell? ⟨g, o + i, none⟩ = some cur[o + i] := by simp [World.cell?, hg, hi]
    have hfro : w.frozen? ⟨g, o + i, none⟩ = false := by
      obtain ⟨lo, hi'⟩ := fz
      have := hz (o + i) hi
      simp only [World.frozen?, hg]
      cases h : (decide (lo ≤ o + i) && decide (o + i < hi')) with
      | false => rfl
      | true => simp only [Bool.and_eq_true, decide_eq_true_eq] at h; exact absurd h this
    have hst : (store ((⟨g, o, none⟩ : Addr).add i) v).run P w = .ok () (w.setRow g (cur.setIfInBounds (o + i) v)) := by
      rw [Addr_add_plain, run_store P w _ v _ (by rw [← oneCell_eq]; exact h1 v (by simp)), hcell]
      simp [hfro, setCell_eq_setRow w g (o + i) cur t fz v hg]
    have ih := run_storeRow g o t fz rest (i + 1) (cur.setIfInBounds (o + i) v) (w.setRow g (cur.setIfInBounds (o + i) v)) (setRow_heap w g cur _ t _ hg) (by simp at hl ⊢; omega) (by simpa using hz) (fun x hx => h1 x (by simp [hx]))
    simp only [storeCells, Sem.run_bind, hst, Result.andThen_ok, ih, setRow_setRow]
    congr 3
    have e := list_seg_step cur.toList (o + i) v rest (by simp at hl ⊢; omega)
    simpa [Array.toList_setIfInBounds, Nat.add_assoc] using e

theorem splice_spec : ∀ (cs : List Value) (o : Nat) (vs r : List Value), splice cs o vs = some r → (vs = [] → r = cs) ∧ (vs ≠ [] → o + vs.length ≤ cs.length) ∧ r.length = cs.length ∧ ∀ i, r[i]? = if o ≤ i ∧ i < o + vs.length then vs[i - o]? else cs[i]?
  | cs, 0, [], r, h => by simp only [splice, Option.some.injEq] at h; subst h; refine ⟨fun _ => rfl, fun h => absurd rfl h, rfl, fun i => by simp⟩
  | [], 0, v :: vs, r, h => by simp [splice] at h
  | c :: cs, 0, v :: vs, r, h => by
    simp only [splice, Option.map_eq_some_iff] at h
    obtain ⟨r', hr', rfl⟩ := h
    obtain ⟨a, b, c', d⟩ := splice_spec cs 0 vs r' hr'
    refine ⟨fun h => (by cases h), fun _ => ?_, by simp [c'], fun i => ?_⟩
    · by_cases hv : vs = []
      · subst hv; simp
      · have := b hv; simp at this ⊢; omega
    · cases i with
      | zero => simp
      | succ i =>
        have := d i
        simp only [List.getElem?_cons_succ, this]
        simp only [Nat.zero_le, true_and, Nat.zero_add, List.length_cons, Nat.sub_zero, List.getElem?_cons_succ]
        by_cases hh : i < vs.length
        · rw [if_pos hh, if_pos (by omega)]
        · rw [if_neg hh, if_neg (by omega)]
  | [], o + 1, [], r, h => by simp only [splice, Option.some.injEq] at h; subst h; refine ⟨fun _ => rfl, fun h => absurd rfl h, rfl, fun i => by simp⟩
  | [], o + 1, v :: vs, r, h => by simp [splice] at h
  | c :: cs, o + 1, vs, r, h => by
    simp only [splice, Option.map_eq_some_iff] at h
    obtain ⟨r', hr', rfl⟩ := h
    obtain ⟨a, b, c', d⟩ := splice_spec cs o vs r' hr'
    refine ⟨fun hv => by rw [a hv], fun hv => ?_, by simp [c'], fun i => ?_⟩
    · have := b hv; simp; omega
    · cases i with
      | zero => simp
      | succ i =>
        have := d i
        simp only [List.getElem?_cons_succ, this]
        have e : i + 1 - (o + 1) = i - o := by omega
        by_cases hh : o ≤ i ∧ i < o + vs.length
        · rw [if_pos hh, if_pos (by omega), e]
        · rw [if_neg hh, if_neg (by omega)]

/-- A store into a block of one's own. -/
theorem storeH_sound {h h' : Heap} {a A : Addr} {vs Vs : List Value} (hr : HR B G ρ (lts h.next) h.get w) (ha : AR ρ (lts h.next) a A) (hrel : VRs ρ (lts h.next) vs.toArray Vs.toArray)
    (hs : storeH h a vs = some h') : ∃ w', (storeCells A Vs).run P w = .ok () w' ∧ Step B G ρ (lts h.next) h.get w ρ (lts h'.next) h'.get w' := by
  unfold storeH at hs
  split at hs
  · rename_i cs hg
    split at hs
    · rename_i hone
      simp only [Option.map_eq_some_iff] at hs
      obtain ⟨r, hsp, rfl⟩ := hs
      obtain ⟨s1, s2, s3, s4⟩ := splice_spec cs a.off vs r hsp
      obtain ⟨hB, C, t, fz, hC, hlim, hfz, hcr⟩ := hr.blk _ _ hg
      obtain ⟨hab, hsp', rfl⟩ := ha
      have hlen : vs.length = Vs.length := by have := hrel.1; simpa using this
      have hfit : vs ≠ [] → (ρ a.block).delta + a.off + Vs.length ≤ C.size := fun hv => by
        have := s2 hv
        have hpos : 0 < vs.length := List.length_pos_iff.2 hv
        obtain ⟨V, hV, _⟩ := hcr (a.off + vs.length - 1) cs[a.off + vs.length - 1] (by rw [List.getElem?_eq_getElem])
        have := (Array.getElem?_eq_some_iff.1 hV).1
        omega
      have hVone : ∀ V ∈ Vs, oneCell V = true := fun V hV => by
        obtain ⟨i, hi⟩ := List.mem_iff_getElem?.1 hV
        have hil : i < vs.length := by rw [hlen]; exact (List.getElem?_eq_some_iff.1 hi).1
        simp only [List.all_eq_true] at hone
        exact (hrel.2 i vs[i] V (by simp [hil]) (by simpa using hi)).oneCell (hone _ (by simp))
      by_cases hv : vs = []
      · subst hv
        have hV : Vs = [] := List.eq_nil_of_length_eq_zero (by simpa using hlen.symm)
        subst hV
        refine ⟨w, rfl, ?_⟩
        have := s1 rfl
        subst this
        rw [Heap.get_put]
        exact hr.setBlk (own_iff.2 ⟨_, hg, rfl⟩) ⟨hB, C, t, fz, hC, hlim, hfz, hcr⟩ rfl rfl (fun _ _ => rfl) rfl rfl rfl
      · have hfit := hfit hv
        have hrun := run_storeRow (P := P) (ρ a.block).blk ((ρ a.block).delta + a.off) t fz Vs 0 C w hC (by omega) hfz hVone
        refine ⟨_, hrun, ?_⟩
        rw [Heap.get_put]
        refine hr.setBlk (own_iff.2 ⟨_, hg, rfl⟩) ⟨hB, _, t, fz, setRow_heap w _ C _ t fz hC, ?_, ?_, ?_⟩ rfl (by simp) (fun k hk => setRow_other w _ k _ hk) rfl rfl rfl
        · rw [← hlim]; simp; omega
        · intro o ho
          refine hfz o ?_
          simp at ho; omega
        · intro i v hi
          rw [s4 i] at hi
          simp only [Nat.add_zero, List.getElem?_toArray]
          by_cases hc : a.off ≤ i ∧ i < a.off + vs.length
          · rw [if_pos hc] at hi
            have hiv : i - a.off < Vs.length := by omega
            have hV := hrel.2 (i - a.off) v Vs[i - a.off] (by simpa using hi) (by simp [hiv])
            refine ⟨Vs[i - a.off], ?_, hV⟩
            rw [List.append_assoc, List.getElem?_append_right (by simp; omega), List.getElem?_append_left (by simp; omega)]
            simp only [List.length_take, Array.length_toList]
            have : (ρ a.block).delta + i - min ((ρ a.block).delta + a.off) C.size = i - a.off := by omega
            rw [this]; simp [hiv]
          · rw [if_neg hc] at hi
            obtain ⟨V, hV, hvr⟩ := hcr i v hi
            refine ⟨V, ?_, hvr⟩
            have hlt := (Array.getElem?_eq_some_iff.1 hV).1
            by_cases h1 : i < a.off
            · rw [List.append_assoc, List.getElem?_append_left (by simp; omega), List.getElem?_take, if_pos (by omega)]
              simpa using hV
            · rw [List.getElem?_append_right (by simp; omega)]
              simp only [List.length_append, List.length_take, Array.length_toList, List.getElem?_drop]
              have : (ρ a.block).delta + a.off + Vs.length + ((ρ a.block).delta + i - (min ((ρ a.block).delta + a.off) C.size + Vs.length)) = (ρ a.block).delta + i := by omega
              rw [this]; simpa using hV
    · cases hs
  · cases hs

end

end Go.Ab
