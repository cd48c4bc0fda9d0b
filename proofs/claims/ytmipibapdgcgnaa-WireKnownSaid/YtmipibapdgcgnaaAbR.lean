/- The abstract machine: operations that read memory are the model's. -/
import Derived.Test.YtmipibapdgcgnaaAbPa
import Derived.Laws.Cells
import Derived.Laws.BytesArg
namespace Go.Ab
open Go

section
variable {P : Program} {ev EV : Operand → Value} {ρ : Ren} {n : Scope} {B G : Nat} {get : Get} {w : World}

theorem Addr_add_plain (b o i : Nat) : (⟨b, o, none⟩ : Addr).add i = ⟨b, o + i, none⟩ := by unfold Addr.add; split <;> simp_all

/-- What a block of cells is in the world. -/
theorem HR.row (hr : HR B G ρ n get w) {id : Nat} {own : Bool} {cs : List Value} (h : get id = some (.cells own cs)) :
    ∃ C e fz, w.heap[(ρ id).blk]? = some (.cells C e fz) ∧ CellsR ρ n cs C (ρ id).delta := by
  have := hr.blk id _ h
  cases own with
  | true => obtain ⟨_, C, e, fz, h1, _, _, h2⟩ := this; exact ⟨C, e, fz, h1, h2⟩
  | false => obtain ⟨_, C, e, fz, h1, h2⟩ := this; exact ⟨C, e, fz, h1, h2⟩

theorem cellAt_rel (hr : HR B G ρ n get w) {a A : Addr} {v : Value} (ha : AR ρ n a A) (h : cellAt get a = some v) : ∃ V, w.cell? A = some V ∧ VR ρ n v V := by
  unfold cellAt at h
  split at h
  · rename_i own cs hg
    obtain ⟨C, e, fz, h1, h2⟩ := hr.row hg
    obtain ⟨V, hV, hv⟩ := h2 _ _ h
    obtain ⟨_, _, rfl⟩ := ha
    exact ⟨V, by simp [World.cell?, h1, hV], hv⟩
  · cases h

/-- Cells in a row: the world's. -/
theorem cellsAt_rel (hr : HR B G ρ n get w) {a A : Addr} {m : Nat} {l : List Value} (ha : AR ρ n a A) (h : cellsAt get a m = some l) :
    l.length = m ∧ ∃ L : List Value, L.length = m ∧ VRs ρ n l.toArray L.toArray ∧ ∀ j V, L[j]? = some V → w.cell? (A.add j) = some V := by
  unfold cellsAt at h
  split at h
  · rename_i own cs hg
    obtain ⟨C, e, fz, h1, h2⟩ := hr.row hg
    obtain ⟨_, _, rfl⟩ := ha
    simp only at h
    split at h
    · rename_i hl
      cases h
      have hl := Nat.eq_of_beq_eq_true hl
      have key : ∀ j, j < m → ∃ V, C[(ρ a.block).delta + (a.off + j)]? = some V ∧ ∀ v, ((cs.drop a.off).take m)[j]? = some v → VR ρ n v V := by
        intro j hj
        have hj' : j < ((cs.drop a.off).take m).length := by omega
        have : cs[a.off + j]? = some ((cs.drop a.off).take m)[j] := by
          rw [← List.getElem?_eq_getElem hj', List.getElem?_take, if_pos hj, List.getElem?_drop]
        obtain ⟨V, hV, hv⟩ := h2 _ _ this
        exact ⟨V, hV, fun v hv' => by rw [List.getElem?_eq_getElem hj'] at hv'; cases hv'; exact hv⟩
      refine ⟨hl, ((C.toList.drop ((ρ a.block).delta + a.off)).take m), ?_, ?_, ?_⟩
      · rcases Nat.eq_zero_or_pos m with rfl | hm
        · simp
        · obtain ⟨V, hV, _⟩ := key (m - 1) (by omega)
          have := (Array.getElem?_eq_some_iff.1 hV).1
          simp only [List.length_take, List.length_drop, Array.length_toList]
          omega
      · refine ⟨?_, fun i x y hx hy => ?_⟩
        · simp only [List.size_toArray]
          rw [hl]
          rcases Nat.eq_zero_or_pos m with rfl | hm
          · simp
          · obtain ⟨V, hV, _⟩ := key (m - 1) (by omega)
            have := (Array.getElem?_eq_some_iff.1 hV).1
            simp only [List.length_take, List.length_drop, Array.length_toList]
            omega
        · have hi : i < m := by
            have := (Array.getElem?_eq_some_iff.1 hx).1
            simp only [List.size_toArray] at this
            omega
          obtain ⟨V, hV, hv⟩ := key i hi
          simp only [List.getElem?_toArray] at hx hy
          rw [List.getElem?_take, if_pos hi, List.getElem?_drop, Array.getElem?_toList, Nat.add_assoc, hV] at hy
          cases hy
          exact hv x hx
      · intro j V hV
        rw [List.getElem?_take] at hV
        split at hV
        · rename_i hj
          rw [List.getElem?_drop, Array.getElem?_toList, Nat.add_assoc] at hV
          rw [Addr_add_plain]
          simp [World.cell?, h1, Nat.add_assoc, hV]
        · cases hV
    · cases h
  · cases h

theorem loadVar_agg {t : TypeId} {m : Nat} {A : Addr} {L : List Value} (ht : isAggT P t = some true) (hs : szOf P t = some m) (hl : L.length = m) (hc : ∀ j V, L[j]? = some V → w.cell? (A.add j) = some V) :
    (loadVar t A).run P w = .ok (.agg L.toArray) w := by
  have := run_loadCells_list (P := P) w A L hc
  rw [hl] at this
  simp [loadVar, isAggT_run ht, szOf_run hs, this]

theorem loadVar_cell {t : TypeId} {A : Addr} {V : Value} (ht : isAggT P t = some false) (hc : w.cell? A = some V) : (loadVar t A).run P w = .ok V w := by
  simp [loadVar, isAggT_run ht, hc]

/-- Bytes. -/
theorem bytesOf_rel : ∀ (l L : List Value) (b : List UInt8), VRs ρ n l.toArray L.toArray → bytesOf? l = some b →
    ∃ ns : List Int, L = ns.map (Value.int .u8) ∧ (ns.map fun i => UInt8.ofNat i.toNat) = b
  | [], L, b, hr, h => by
    simp only [bytesOf?, Option.some.injEq] at h
    subst h
    have : L = [] := List.eq_nil_of_length_eq_zero (by have := hr.1; simpa using this.symm)
    exact ⟨[], by simp [this], rfl⟩
  | v :: l, L, b, hr, h => by
    cases v with
    | int k i =>
      cases k with
      | u8 =>
        simp only [bytesOf?, Option.map_eq_some_iff] at h
        obtain ⟨b', hb', rfl⟩ := h
        cases L with
        | nil => have := hr.1; simp at this
        | cons V L =>
          have h0 := hr.2 0 (.int .u8 i) V (by simp) (by simp)
          have h1 : VRs ρ n l.toArray L.toArray := ⟨by have := hr.1; simpa using this, fun j x y hx hy => hr.2 (j + 1) x y (by simpa using hx) (by simpa using hy)⟩
          obtain ⟨ns, rfl, hns⟩ := bytesOf_rel l L b' h1 hb'
          exact ⟨i :: ns, by rw [h0.int_inv]; rfl, by simp [hns]⟩
      | _ => simp [bytesOf?] at h
    | _ => simp [bytesOf?] at h

/-- Looking a key up. -/
theorem findNow_rel {kd : TypeDesc} {k : Value} : ∀ (es Es : List MapEntry) (i : Nat) (r : Option (Nat × Value)), es.length = Es.length →
    (∀ (j : Nat) (e E : MapEntry), es[j]? = some e → Es[j]? = some E → e.key = E.key ∧ VR ρ n e.val E.val) → Instr.findNow kd k es i = some r →
    (r = none ∧ Instr.findNow kd k Es i = some none) ∨ ∃ j v V, r = some (j, v) ∧ Instr.findNow kd k Es i = some (some (j, V)) ∧ VR ρ n v V ∧ i ≤ j ∧ j < i + es.length ∧ (∀ e, es[j - i]? = some e → e.val = v)
  | [], [], i, r, _, _, h => by simp only [Instr.findNow, Option.some.injEq] at h; subst h; exact .inl ⟨rfl, rfl⟩
  | [], _ :: _, _, _, hl, _, _ => by simp at hl
  | _ :: _, [], _, _, hl, _, _ => by simp at hl
  | e :: es, E :: Es, i, r, hl, hr, h => by
    obtain ⟨hk, hv⟩ := hr 0 e E rfl rfl
    simp only [Instr.findNow] at h ⊢
    rw [← hk]
    cases hs : Instr.sameNow kd k e.key with
    | none => simp [hs] at h
    | some b =>
      cases b with
      | true =>
        simp only [hs, Option.some.injEq] at h
        subst h
        exact .inr ⟨i, _, _, rfl, rfl, hv, Nat.le_refl _, by simp, fun e' he' => by simp at he'; subst he'; rfl⟩
      | false =>
        simp only [hs] at h
        rcases findNow_rel es Es (i + 1) r (by simpa using hl) (fun j a b ha hb => hr (j + 1) a b (by simpa using ha) (by simpa using hb)) h with ⟨h1, h2⟩ | ⟨j, v, V, h1, h2, h3, h4, h5, h6⟩
        · exact .inl ⟨h1, h2⟩
        · refine .inr ⟨j, v, V, h1, h2, h3, by omega, by simp; omega, fun e' he' => h6 e' ?_⟩
          have : j - i = (j - (i + 1)) + 1 := by omega
          rw [this] at he'
          simpa using he'

theorem EntriesR.findNow {es : List MapEntry} {Es : Array MapEntry} {kd : TypeDesc} {k : Value} {r : Option (Nat × Value)} (hr : EntriesR ρ n es Es) (h : Instr.findNow kd k es 0 = some r) :
    (r = none ∧ Instr.findNow kd k Es.toList 0 = some none) ∨ ∃ j v V, r = some (j, v) ∧ Instr.findNow kd k Es.toList 0 = some (some (j, V)) ∧ VR ρ n v V ∧ j < es.length := by
  have hq : ∀ (j : Nat) (e E : MapEntry), es[j]? = some e → Es.toList[j]? = some E → e.key = E.key ∧ VR ρ n e.val E.val := fun j e E he hE => by
    obtain ⟨q1, _, _, q2⟩ := hr.2 j e E he (by simpa using hE)
    exact ⟨q1, q2⟩
  rcases findNow_rel es Es.toList 0 r (by simp [hr.1]) hq h with h | ⟨j, v, V, h1, h2, h3, _, h5, _⟩
  · exact .inl h
  · exact .inr ⟨j, v, V, h1, h2, h3, by omega⟩

theorem basicKey_inv {t : TypeId} (h : basicKey (P.underlying t) = true) : ∃ d, P.underlying t = some d ∧ ((∃ k, d = .int k) ∨ d = .string ∨ d = .bool) := by
  cases hu : P.underlying t with
  | none => simp [hu, basicKey] at h
  | some d =>
    refine ⟨d, rfl, ?_⟩
    rw [hu] at h
    cases d <;> simp [basicKey] at h <;> simp

theorem checkKey_run {e : Bool} {t : TypeId} {k : Value} (h : basicKey (P.underlying t) = true) : ∀ d w, (Instr.checkKey e (d + 1) t k).run P w = .ok () w := by
  intro d w
  obtain ⟨ds, hu, h⟩ := basicKey_inv h
  rcases h with ⟨k', rfl⟩ | rfl | rfl <;> simp [Instr.checkKey, underlying_run hu]

theorem findKey_run {t : TypeId} {k : Value} {es : List MapEntry} {kd : TypeDesc} {r : Option (Nat × Value)} (hu : P.underlying t = some kd) (h : Instr.findNow kd k es 0 = some r) (w : World) :
    (Instr.findKey t k es).run P w = .ok r w := by
  simp [Instr.findKey, underlying_run hu, h]

theorem lookup_some {t key elem : TypeId} {kd : TypeDesc} {R c : Nat} {Es : Array MapEntry} {k : Value} {ok : Bool} {r : Option (Nat × Value)} {z : Value} (ht : P.underlying t = some (.map key elem)) (hk : basicKey (P.underlying key) = true)
    (hu : P.underlying key = some kd) (hg : w.heap[R]? = some (.map Es c)) (hf : Instr.findNow kd k Es.toList 0 = some r) (hz : r = none → zeroOf P elem = some z) :
    (Instr.lookup t (.map (some R)) k ok).run P w = .ok (let p : Value × Bool := match r with | some (_, v) => (v, true) | none => (z, false); if ok = true then .tuple #[p.1, .bool p.2] else p.1) w := by
  have hgo : (getObj R).run P w = .ok (.map Es c) w := by simp [getObj, Sem.run, hg]
  have hc := checkKey_run (P := P) (e := Es.isEmpty) (k := k) hk 9999 w
  simp only [Instr.lookup, Sem.run_bind, underlying_run ht, Result.andThen_ok, hgo, Sem.run_pure]
  rw [show (10000 : Nat) = 9999 + 1 from rfl, hc]
  simp only [Result.andThen_ok, findKey_run hu hf]
  cases r with
  | none => simp [zeroOf_run (hz rfl)]
  | some p => simp

theorem lookup_nil {t key elem : TypeId} {k : Value} {ok : Bool} {z : Value} (ht : P.underlying t = some (.map key elem)) (hk : basicKey (P.underlying key) = true) (hz : zeroOf P elem = some z) (w : World) :
    (Instr.lookup t (.map none) k ok).run P w = .ok (if ok = true then .tuple #[z, .bool false] else z) w := by
  have hc := checkKey_run (P := P) (e := (#[] : Array MapEntry).isEmpty) (k := k) hk 9999 w
  obtain ⟨kd, hu, _⟩ := basicKey_inv hk
  simp only [Instr.lookup, Sem.run_bind, underlying_run ht, Result.andThen_ok, Sem.run_pure]
  rw [show (10000 : Nat) = 9999 + 1 from rfl, hc]
  simp only [Result.andThen_ok, findKey_run (P := P) (k := k) (es := #[].toList) (r := none) hu rfl]
  simp [zeroOf_run hz]

theorem VR.pair {a A : Value} (b : Bool) (h : VR ρ n a A) : VR ρ n (.tuple #[a, .bool b]) (.tuple #[A, .bool b]) := .tuple rfl (fun i x y ha hb => by
  match i with
  | 0 => simp at ha hb; subst ha; subst hb; exact h
  | 1 => simp at ha hb; subst ha; subst hb; exact .scalar rfl
  | i + 2 => simp at ha)

theorem rOp_sound {o : Oper} {v : Value} (hr : HR B G ρ n get w) (hv : ∀ x ∈ o.op.operands, VR ρ n (ev x) (EV x)) (h : rOp P ev get o = some v) :
    ∃ V, VR ρ n v V ∧ (execOp EV o).run P w = .ok (.value V) w := by
  obtain ⟨dst, op, type, pos, after, guard⟩ := o
  cases op <;> simp only [rOp] at h <;> (try (cases h; done)) <;> simp only [Op.operands] at hv
  case load t x =>
    have hx := hv x (by simp)
    split at h
    · rename_i a ht ha
      simp only [Option.bind_eq_some_iff, Option.map_eq_some_iff] at h
      obtain ⟨m, hm, l, hl, rfl⟩ := h
      rw [ha] at hx
      obtain ⟨A, hA, har⟩ := hx.ptr_inv
      obtain ⟨hlen, L, hL, hrel, hc⟩ := cellsAt_rel hr har hl
      exact ⟨.agg L.toArray, .agg hrel.1 hrel.2, by simp [execOp, hA, Instr.loadAt, Instr.sureAddr, loadVar_agg ht hm hL hc]⟩
    · rename_i a ht ha
      rw [ha] at hx
      obtain ⟨A, hA, har⟩ := hx.ptr_inv
      obtain ⟨V, hc, hvr⟩ := cellAt_rel hr har h
      exact ⟨V, hvr, by simp [execOp, hA, Instr.loadAt, Instr.sureAddr, loadVar_cell ht hc]⟩
    · cases h
  case convert src dst x =>
    have hx := hv x (by simp)
    split at h
    · rename_i e l c hs hd ha
      split at h
      · rename_i he
        cases h
        rw [ha] at hx
        obtain ⟨hA, _, _⟩ := hx.nilslice
        exact ⟨_, .scalar rfl, by simp only [execOp, hA, Sem.run_bind, run_convert_bytes_nil w src e hs he 0 0 dst hd]; rfl⟩
      · cases h
    · rename_i e a m c hs hd ha
      split at h
      · rename_i he
        simp only [Option.bind_eq_some_iff, Option.map_eq_some_iff] at h
        obtain ⟨l, hl, b, hb, rfl⟩ := h
        rw [ha] at hx
        obtain ⟨hab, A, c', hA, hlc, har⟩ := hx.slice_any
        rcases Nat.eq_zero_or_pos m with rfl | hm
        · have hb0 : b = [] := by
            have hl0 : l = [] := by
              unfold cellsAt at hl
              split at hl
              · simp at hl; exact hl
              · cases hl
            subst hl0; simp [bytesOf?] at hb; exact hb
          subst hb0
          refine ⟨_, .scalar rfl, ?_⟩
          have := run_bytesToString (P := P) w A 0 c' [] (by simp [loadCells, loadCellsFrom])
          simp only [execOp, hA, Sem.run_bind]
          rw [run_convert_bytes_string w src dst e _ 0 c' hs he hd, this]
          rfl
        · obtain ⟨hlen, L, hL, hrel, hc⟩ := cellsAt_rel hr (har hm) hl
          obtain ⟨ns, rfl, hns⟩ := bytesOf_rel l L b hrel hb
          have hlo := run_loadCells_list (P := P) w A (ns.map (Value.int .u8)) hc
          rw [hL] at hlo
          have := run_bytesToString (P := P) w A m c' ns hlo
          refine ⟨_, .scalar rfl, ?_⟩
          simp only [execOp, hA, Sem.run_bind]
          rw [run_convert_bytes_string w src dst e _ m c' hs he hd, this, foldl_push_bytes, ← hns]
          simp [ByteArray.empty, ByteArray.emptyWithCapacity]
          rfl
      · cases h
    · cases h
  case lookup t x i ok =>
    have hx := hv x (by simp)
    have hi := hv i (by simp)
    split at h
    · rename_i key elem ht ha
      split at h
      · rename_i hk
        simp only [Option.bind_eq_some_iff] at h
        obtain ⟨z, hz, h⟩ := h
        split at h
        · rename_i hc
          rw [ha] at hx
          cases h
          have hzz : VR ρ n z z := .of_closed hc
          refine ⟨if ok = true then .tuple #[z, .bool false] else z, by cases ok <;> first | exact hzz.pair _ | exact hzz, ?_⟩
          simp only [execOp, hx.scalar_eq rfl, Sem.run_bind, lookup_nil ht hk hz]
          rfl
        · cases h
      · cases h
    · rename_i key elem r ht ha
      split at h
      · rename_i hk
        simp only [Bool.and_eq_true] at hk
        split at h
        · rename_i es c kd hg hu
          simp only [Option.bind_eq_some_iff] at h
          obtain ⟨f, hf, h⟩ := h
          rw [ha] at hx
          obtain ⟨hA, hlt⟩ := hx.map_inv
          have hki := hi.scalar_eq hk.2
          obtain ⟨_, Es, hE, her⟩ := hr.blk r _ hg
          rcases her.findNow hf with ⟨rfl, hF⟩ | ⟨j, v', V', rfl, hF, hvv, _⟩
          · simp only [Option.bind_eq_some_iff] at h
            obtain ⟨z, hz, h⟩ := h
            split at h
            · rename_i hc
              cases h
              have hzz : VR ρ n z z := .of_closed hc
              refine ⟨if ok = true then .tuple #[z, .bool false] else z, by cases ok <;> first | exact hzz.pair _ | exact hzz, ?_⟩
              simp only [execOp, hA, hki, Sem.run_bind, lookup_some ht hk.1 hu hE hF (fun _ => hz)]
              rfl
            · cases h
          · cases h
            refine ⟨if ok = true then .tuple #[V', .bool true] else V', by cases ok <;> first | exact hvv.pair _ | exact hvv, ?_⟩
            simp only [execOp, hA, hki, Sem.run_bind, lookup_some (z := undef) ht hk.1 hu hE hF (fun e => by cases e)]
            rfl
        · cases h
      · cases h
    · cases h
  case call c =>
    obtain ⟨callee, args, argTypes⟩ := c
    cases callee with
    | value f => simp at h
    | invoke r m => simp at h
    | builtin b =>
      have hargs : ∀ x ∈ args, VR ρ n (ev x) (EV x) := fun x hx => hv x (by simp [Call.operands, hx])
      have hall := VRs.map hargs
      cases b <;> simp only at h <;> (try (cases h; done))
      case len =>
        split at h
        · rename_i k e r ht hv0
          split at h
          · rename_i es c hg
            cases h
            have : (args.map ev)[0]? = some (.map (some r)) := by rw [Array.getElem?_map]; exact hv0
            obtain ⟨V0, hV, hx⟩ := hall.get this
            obtain ⟨rfl, hlt⟩ := hx.map_inv
            obtain ⟨t0, ht0, hu⟩ := Option.bind_eq_some_iff.1 ht
            obtain ⟨_, Es, hE, her⟩ := hr.blk r _ hg
            have hgo : (getObj (ρ r).blk).run P w = .ok (.map Es c) w := by simp [getObj, Sem.run, hE]
            refine ⟨_, .scalar rfl, ?_⟩
            show (builtin .len argTypes type (args.map fun | .const _ => true | _ => false) (args.map EV)).run P w = _
            simp only [builtin, Builtin.len_, ht0, hV]
            simp [underlying_run hu, hgo, her.1]
          · cases h
        · cases h
end

end Go.Ab
