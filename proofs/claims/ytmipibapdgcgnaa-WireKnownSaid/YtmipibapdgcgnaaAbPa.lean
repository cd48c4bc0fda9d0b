/- The abstract machine: every operation on registers is the model's. -/
import Derived.Test.YtmipibapdgcgnaaAbP
namespace Go.Ab
open Go

section
variable {P : Program} {ev EV : Operand → Value} {ρ : Ren} {n : Scope}

theorem blt_iff {a b : Nat} : Nat.blt a b = true ↔ a < b := by simp [Nat.blt]; omega

theorem idx_run {i : Int} {m : Nat} (h : (decide (0 ≤ i) && Nat.blt i.toNat m) = true) : 0 ≤ i ∧ i < m ∧ i.toNat < m := by
  simp only [Bool.and_eq_true, decide_eq_true_eq, blt_iff] at h
  omega

theorem indexAt_arr {t e : TypeId} {m z : Nat} {A : Addr} {k : IntKind} {i : Int} (ht : P.underlying t = some (.array m e)) (hz : szOf P e = some z) (h0 : 0 ≤ i) (hm : i < m) (w : World) :
    (Instr.indexAt t (.pointer (some A)) (.int k i)).run P w = .ok (.pointer (some (A.add (i.toNat * z)))) w := by
  simp [Instr.indexAt, asIntOf, underlying_run ht, Instr.sureAddr, h0, hm, szOf_run hz]

theorem indexAt_slice {t e : TypeId} {m c z : Nat} {A : Addr} {k : IntKind} {i : Int} (ht : P.underlying t = some (.slice e)) (hz : szOf P e = some z) (h0 : 0 ≤ i) (hm : i < m) (w : World) :
    (Instr.indexAt t (.slice (some A) m c) (.int k i)).run P w = .ok (.pointer (some (A.add (i.toNat * z)))) w := by
  simp [Instr.indexAt, asIntOf, underlying_run ht, h0, hm, szOf_run hz]

theorem fieldAt_run {s : TypeId} {fields : Array Field} {f z : Nat} {fd : Field} {A : Addr} (hs : P.underlying s = some (.struct fields)) (hf : fields[f]? = some fd) (hz : szOf P fd.type = some (z + 1)) (w : World) :
    (Instr.fieldAt s (.pointer (some A)) f).run P w = .ok (.pointer (some (A.add fd.offset))) w := by
  simp [Instr.fieldAt, underlying_run hs, hf, Instr.sureAddr, fieldPlace, szOf_run hz]

theorem VRs.flat_eq {cs ds : Array Value} (hf : cs.toList.all flat = true) (h : VRs ρ n cs ds) : ds = cs := by
  refine Array.ext h.1.symm fun i h1 h2 => ?_
  simp only [List.all_eq_true] at hf
  exact (h.2 i cs[i] ds[i] (by simp [h2]) (by simp [h1])).flat_eq (hf cs[i] (by simp))

theorem typeAssert_hit {t xt : TypeId} {d : TypeDesc} {V : Value} {ok : Bool} (ht : P.underlying t = some d) (hd : ∀ ms, d ≠ .interface ms) (w : World) :
    (Instr.typeAssert (.iface t V) xt t ok).run P w = .ok (if ok = true then .tuple #[V, .bool true] else V) w := by
  simp only [Instr.typeAssert, Sem.run_bind, underlying_run ht, Result.andThen_ok]
  cases d <;> first | exact absurd rfl (hd _) | (cases ok <;> simp)

theorem typeAssert_miss {t u xt : TypeId} {d : TypeDesc} {V z : Value} (ht : P.underlying t = some d) (hd : ∀ ms, d ≠ .interface ms) (hu : u ≠ t) (hz : zeroOf P t = some z) (w : World) :
    (Instr.typeAssert (.iface u V) xt t true).run P w = .ok (.tuple #[z, .bool false]) w := by
  simp only [Instr.typeAssert, Sem.run_bind, underlying_run ht, Result.andThen_ok]
  cases d <;> first | exact absurd rfl (hd _) | simp [hu, zeroOf_run hz]

theorem typeAssert_nil {t xt : TypeId} {d : TypeDesc} {z : Value} (ht : P.underlying t = some d) (hd : ∀ ms, d ≠ .interface ms) (hz : zeroOf P t = some z) (w : World) :
    (Instr.typeAssert .nilIface xt t true).run P w = .ok (.tuple #[z, .bool false]) w := by
  simp only [Instr.typeAssert, Sem.run_bind, underlying_run ht, Result.andThen_ok]
  cases d <;> first | exact absurd rfl (hd _) | simp [zeroOf_run hz]

theorem pOp_sound {o : Oper} {v : Value} (hv : ∀ x ∈ o.op.operands, VR ρ n (ev x) (EV x)) (h : pOp P ev o = some v) : ∃ V, VR ρ n v V ∧ ∀ w, (execOp EV o).run P w = .ok (.value V) w := by
  obtain ⟨dst, op, type, pos, after, guard⟩ := o
  cases op <;> simp only [pOp] at h <;> (try (cases h; done)) <;> simp only [Op.operands] at hv
  case move x => cases h; exact ⟨_, hv x (by simp), fun w => rfl⟩
  case assign x => cases h; exact ⟨_, hv x (by simp), fun w => rfl⟩
  case pick c a b =>
    split at h
    · rename_i t ht
      cases h
      have hc := (hv c (by simp)); rw [ht] at hc; have hc := hc.bool_inv
      cases t
      · exact ⟨EV b, hv b (by simp), fun w => by simp [execOp, hc, asBool]⟩
      · exact ⟨EV a, hv a (by simp), fun w => by simp [execOp, hc, asBool]⟩
    · cases h
  case build t parts =>
    simp only [Option.bind_eq_some_iff] at h
    obtain ⟨z, hz, h⟩ := h
    split at h
    · cases h
    · rename_i hc
      have hc : closedN 3 z = true := by simpa using hc
      have hzz : VRs ρ n z.cells z.cells := (VR.of_closed hc).cells
      obtain ⟨p1, p2⟩ := parts_rel (parts := parts) (ρ := ρ) (n := n) (ev := ev) (EV := EV) (fun x hx => hv x (by simpa using hx))
      split at h
      · rename_i fields hu
        simp only [Option.bind_eq_some_iff, Option.map_eq_some_iff] at h
        obtain ⟨places, hp, r, hf, rfl⟩ := h
        obtain ⟨R, hR, hrel⟩ := fill_rel _ _ _ _ r p1 p2 hzz hf
        refine ⟨.agg R, .agg hrel.1 hrel.2, fun w => ?_⟩
        have hpl := places_run fields.toList places hp w
        simp only [execOp, Instr.build]
        simp only [Array.toList_map, List.getElem?_toArray] at hR
        simp [zeroOf_run hz, underlying_run hu, Array.mapM_eq_mapM_toList, hpl, hR]
      · rename_i e hu
        simp only [Option.bind_eq_some_iff, Option.map_eq_some_iff] at h
        obtain ⟨sz, hs, r, hf, rfl⟩ := h
        obtain ⟨R, hR, hrel⟩ := fill_rel _ _ _ _ r p1 p2 hzz hf
        refine ⟨.agg R, .agg hrel.1 hrel.2, fun w => ?_⟩
        simp only [execOp, Instr.build]
        simp only [Array.toList_map] at hR
        simp [zeroOf_run hz, underlying_run hu, szOf_run hs, hR]
      · cases h
  case nilCheck x =>
    have hx := hv x (by simp)
    split at h
    · rename_i a ha
      cases h
      rw [ha] at hx ⊢
      obtain ⟨A, hA, har⟩ := hx.ptr_inv
      exact ⟨_, .ptr har, fun w => by simp [execOp, hA]⟩
    · rename_i f a b ha
      cases h
      rw [ha] at hx ⊢
      obtain ⟨gs, ds, hA, h1, h2⟩ := hx.func_inv
      exact ⟨_, .func h1.1 h1.2 h2.1 h2.2, fun w => by simp [execOp, hA]⟩
    · rename_i t u ha
      cases h
      rw [ha] at hx ⊢
      obtain ⟨V, hA, h1⟩ := hx.iface_inv
      exact ⟨_, .iface h1, fun w => by simp [execOp, hA]⟩
    · cases h
  case binOp op t x y yt =>
    obtain ⟨hs, hr⟩ := binP_run (hv x (by simp)) (hv y (by simp)) h
    refine ⟨v, .scalar hs, fun w => ?_⟩
    have := hr w
    simp only [execOp, Sem.run_bind] at this ⊢
    rw [this]; rfl
  case unOp op t x =>
    split at h
    · rename_i hf
      obtain ⟨hs, hr⟩ := pureS_run h
      refine ⟨v, .scalar hs, fun w => ?_⟩
      simp only [execOp, (hv x (by simp)).flat_eq hf, Sem.run_bind, hr]; rfl
    · cases h
  case convert src dst x =>
    split at h
    · rename_i hf
      obtain ⟨hs, hr⟩ := pureS_run h
      refine ⟨v, .scalar hs, fun w => ?_⟩
      simp only [execOp, (hv x (by simp)).flat_eq hf, Sem.run_bind, hr]; rfl
    · cases h
  case makeInterface t x =>
    split at h
    · cases h
    · cases h
    · rename_i d hd hni
      cases h
      refine ⟨_, .iface (hv x (by simp)), fun w => ?_⟩
      simp only [execOp, Instr.makeInterface]
      simp only [Sem.run_bind, underlying_run hni, Result.andThen_ok]
      cases d <;> first | exact absurd rfl (hd _) | rfl
  case makeFunc fn first cap =>
    cases fn with
    | func f =>
      cases h
      have h1 : VRs ρ n (first.map ev) (first.map EV) := VRs.map fun x hx => hv x (by simp [hx])
      have h2 : VRs ρ n (cap.map ev) (cap.map EV) := VRs.map fun x hx => hv x (by simp [hx])
      exact ⟨_, .func h1.1 h1.2 h2.1 h2.2, fun w => by simp [execOp, Instr.makeFunc]⟩
    | _ => simp at h
  case slice t x lo hi mx =>
    obtain ⟨V, h1, h2⟩ := sliceP_run (EV := EV) (hv x (by simp)) (fun y hy => hv y (by simp [hy])) (fun y hy => hv y (by simp [hy])) (fun y hy => hv y (by simp [hy])) h
    exact ⟨V, h1, fun w => by simp [execOp, h2]⟩
  case fieldAddr s x f =>
    split at h
    · rename_i fields a hs ha
      simp only [Option.bind_eq_some_iff] at h
      obtain ⟨fd, hf, h⟩ := h
      split at h
      · rename_i z hz
        cases h
        have hx := hv x (by simp); rw [ha] at hx
        obtain ⟨A, hA, har⟩ := hx.ptr_inv
        exact ⟨_, .ptr (har.add _), fun w => by simp [execOp, hA, fieldAt_run hs hf hz]⟩
      · cases h
    · cases h
  case field t x f =>
    split at h
    · rename_i fields cs hs ha
      simp only [Option.bind_eq_some_iff] at h
      obtain ⟨fd, hf, h⟩ := h
      have hx := hv x (by simp); rw [ha] at hx
      obtain ⟨ds, hA, har⟩ := hx.agg_inv
      obtain ⟨V, h1, h2⟩ := partP_run h har
      exact ⟨V, h1, fun w => by simp [execOp, hA, Instr.field, underlying_run hs, hf, asAgg, h2]⟩
    · cases h
  case indexAddr t x i =>
    have hx := hv x (by simp)
    have hi := hv i (by simp)
    split at h
    · rename_i m e a k i' ht ha hi'
      cases hb : (decide (0 ≤ i') && Nat.blt i'.toNat m) with
      | false => simp [hb] at h
      | true =>
        simp only [hb, cond_true, Option.map_eq_some_iff] at h
        obtain ⟨z, hz, rfl⟩ := h
        obtain ⟨b1, b2, b3⟩ := idx_run hb
        rw [ha] at hx; rw [hi'] at hi
        obtain ⟨A, hA, har⟩ := hx.ptr_inv
        exact ⟨_, .ptr (har.add _), fun w => by simp only [execOp, hA, hi.int_inv, Sem.run_bind, indexAt_arr ht hz b1 b2]; rfl⟩
    · rename_i e a m c k i' ht ha hi'
      cases hb : (decide (0 ≤ i') && Nat.blt i'.toNat m) with
      | false => simp [hb] at h
      | true =>
        simp only [hb, cond_true, Option.map_eq_some_iff] at h
        obtain ⟨z, hz, rfl⟩ := h
        obtain ⟨b1, b2, b3⟩ := idx_run hb
        rw [ha] at hx; rw [hi'] at hi
        obtain ⟨_, A, c', hA, _, har⟩ := hx.slice_any
        exact ⟨_, .ptr ((har (by omega)).add _), fun w => by simp only [execOp, hA, hi.int_inv, Sem.run_bind, indexAt_slice ht hz b1 b2]; rfl⟩
    · cases h
  case index t x i =>
    have hx := hv x (by simp)
    have hi := hv i (by simp)
    split at h
    · rename_i m e cs k i' ht ha hi'
      cases hb : (decide (0 ≤ i') && Nat.blt i'.toNat m) with
      | false => simp [hb] at h
      | true =>
        simp only [hb, cond_true, Option.bind_eq_some_iff] at h
        obtain ⟨z, hz, hp⟩ := h
        obtain ⟨b1, b2, b3⟩ := idx_run hb
        rw [ha] at hx; rw [hi'] at hi
        obtain ⟨ds, hA, har⟩ := hx.agg_inv
        obtain ⟨V, h1, h2⟩ := partP_run hp har
        exact ⟨V, h1, fun w => by simp [execOp, hA, hi.int_inv, Instr.index, asIntOf, underlying_run ht, b1, b2, szOf_run hz, h2]⟩
    · rename_i s k i' ht ha hi'
      cases hb : decide (0 ≤ i') with
      | false => simp [hb] at h
      | true =>
        simp only [hb, cond_true, Option.map_eq_some_iff] at h
        obtain ⟨b, hb', rfl⟩ := h
        have b1 : 0 ≤ i' := by simpa using hb
        rw [ha] at hx; rw [hi'] at hi
        exact ⟨_, .scalar rfl, fun w => by simp [execOp, hx.string_inv, hi.int_inv, Instr.index, asIntOf, underlying_run ht, b1, hb']⟩
    · cases h
  case typeAssert x xt t ok =>
    have hx := hv x (by simp)
    have pair : ∀ {a A : Value} (b : Bool), VR ρ n a A → VR ρ n (.tuple #[a, .bool b]) (.tuple #[A, .bool b]) := fun b h => .tuple rfl (fun i x y ha hb => by
      match i with
      | 0 => simp at ha hb; subst ha; subst hb; exact h
      | 1 => simp at ha hb; subst ha; subst hb; exact .scalar rfl
      | i + 2 => simp at ha)
    split at h
    · cases h
    · rename_i d u v' hd ht ha
      rw [ha] at hx
      obtain ⟨V, hA, h1⟩ := hx.iface_inv
      cases hb : Nat.beq u t with
      | true =>
        have hut : u = t := Nat.eq_of_beq_eq_true hb
        subst hut
        simp only [hb, if_true, Option.some.injEq] at h
        subst h
        refine ⟨if ok = true then .tuple #[V, .bool true] else V, by cases ok <;> first | exact pair _ h1 | exact h1, fun w => ?_⟩
        simp only [execOp, hA, Sem.run_bind, typeAssert_hit ht (fun ms e => hd ms e)]
        rfl
      | false =>
        have hut : u ≠ t := fun e => by subst e; simp at hb
        simp only [hb, Bool.false_eq_true, if_false] at h
        cases ok with
        | false => simp at h
        | true =>
          simp only [if_true, Option.bind_eq_some_iff] at h
          obtain ⟨z, hz, h⟩ := h
          split at h
          · rename_i hc
            cases h
            exact ⟨_, pair _ (.of_closed hc), fun w => by simp only [execOp, hA, Sem.run_bind, typeAssert_miss ht (fun ms e => hd ms e) hut hz]; rfl⟩
          · cases h
    · rename_i d hd ht ha
      rw [ha] at hx
      have hA := hx.scalar_eq rfl
      cases ok with
      | false => simp at h
      | true =>
        simp only [if_true, Option.bind_eq_some_iff] at h
        obtain ⟨z, hz, h⟩ := h
        split at h
        · rename_i hc
          cases h
          exact ⟨_, pair _ (.of_closed hc), fun w => by simp only [execOp, hA, Sem.run_bind, typeAssert_nil ht (fun ms e => hd ms e) hz]; rfl⟩
        · cases h
    · cases h
  case extract t i =>
    split at h
    · rename_i vs ha
      split at h
      · rename_i hs
        have hx := hv t (by simp); rw [ha] at hx
        obtain ⟨ds, hA, hr⟩ := hx.tuple_inv (by simpa using hs)
        obtain ⟨y, hy, hxy⟩ := hr.get h
        exact ⟨y, hxy, fun w => by simp [execOp, hA, Instr.extract, hy]⟩
      · cases h
    · cases h
  case call c =>
    obtain ⟨callee, args, argTypes⟩ := c
    cases callee with
    | value f => simp at h
    | invoke r m => simp at h
    | builtin b =>
      have hargs : ∀ x ∈ args, VR ρ n (ev x) (EV x) := fun x hx => hv x (by simp [Call.operands, hx])
      have hall := VRs.map hargs
      have ex : ∀ w, (execOp EV ⟨dst, .call ⟨.builtin b, args, argTypes⟩, type, pos, after, guard⟩).run P w =
          (builtin b argTypes type (args.map fun | .const _ => true | _ => false) (args.map EV)).run P w := fun w => rfl
      have arg0 : ∀ v0, Option.map ev args[0]? = some v0 → ∃ V0, (args.map EV)[0]? = some V0 ∧ VR ρ n v0 V0 := fun v0 h0 => by
        have : (args.map ev)[0]? = some v0 := by rw [Array.getElem?_map]; exact h0
        exact hall.get this
      cases b <;> simp only at h <;> (try (cases h; done))
      case cap =>
        split at h
        · rename_i m e v0 ht hv0
          cases h
          obtain ⟨V0, hV, _⟩ := arg0 _ hv0
          obtain ⟨t0, ht0, hu⟩ := Option.bind_eq_some_iff.1 ht
          exact ⟨_, .scalar rfl, fun w => by rw [ex]; simp only [builtin, Builtin.cap_, ht0, hV]; simp [underlying_run hu]⟩
        · rename_i e a l c ht hv0
          split at h
          · rename_i hc
            cases h
            obtain ⟨V0, hV, hr⟩ := arg0 _ hv0
            obtain ⟨t0, ht0, hu⟩ := Option.bind_eq_some_iff.1 ht
            have hc' : c < UNK := blt_iff.1 hc
            cases a with
            | none =>
              obtain ⟨rfl, rfl, rfl⟩ := hr.nilslice
              exact ⟨_, .scalar rfl, fun w => by rw [ex]; simp only [builtin, Builtin.cap_, ht0, hV]; simp [underlying_run hu]⟩
            | some a =>
              obtain ⟨A, rfl, _⟩ := hr.slice_inv hc'
              exact ⟨_, .scalar rfl, fun w => by rw [ex]; simp only [builtin, Builtin.cap_, ht0, hV]; simp [underlying_run hu]⟩
          · cases h
        · cases h
      case len =>
        split at h
        · rename_i s ht hv0
          cases h
          obtain ⟨V0, hV, hr⟩ := arg0 _ hv0
          obtain ⟨t0, ht0, hu⟩ := Option.bind_eq_some_iff.1 ht
          have := hr.string_inv; subst this
          exact ⟨_, .scalar rfl, fun w => by rw [ex]; simp only [builtin, Builtin.len_, ht0, hV]; simp [underlying_run hu]⟩
        · rename_i m e v0 ht hv0
          cases h
          obtain ⟨V0, hV, hr⟩ := arg0 _ hv0
          obtain ⟨t0, ht0, hu⟩ := Option.bind_eq_some_iff.1 ht
          exact ⟨_, .scalar rfl, fun w => by rw [ex]; simp only [builtin, Builtin.len_, ht0, hV]; simp [underlying_run hu]⟩
        · rename_i arr v0 ht hv0
          obtain ⟨V0, hV, hr⟩ := arg0 _ hv0
          obtain ⟨t0, ht0, hu⟩ := Option.bind_eq_some_iff.1 ht
          split at h
          · rename_i m e ha
            cases h
            exact ⟨_, .scalar rfl, fun w => by rw [ex]; simp only [builtin, Builtin.len_, ht0, hV]; simp [underlying_run hu, underlying_run ha]⟩
          · cases h
        · rename_i e a l c ht hv0
          cases h
          obtain ⟨V0, hV, hr⟩ := arg0 _ hv0
          obtain ⟨t0, ht0, hu⟩ := Option.bind_eq_some_iff.1 ht
          cases a with
          | none =>
            obtain ⟨rfl, rfl, rfl⟩ := hr.nilslice
            exact ⟨_, .scalar rfl, fun w => by rw [ex]; simp only [builtin, Builtin.len_, ht0, hV]; simp [underlying_run hu]⟩
          | some a =>
            obtain ⟨_, A, c', rfl, _⟩ := hr.slice_any
            exact ⟨_, .scalar rfl, fun w => by rw [ex]; simp only [builtin, Builtin.len_, ht0, hV]; simp [underlying_run hu]⟩
        · rename_i k e ht hv0
          cases h
          obtain ⟨V0, hV, hr⟩ := arg0 _ hv0
          obtain ⟨t0, ht0, hu⟩ := Option.bind_eq_some_iff.1 ht
          have := hr.scalar_eq rfl; subst this
          exact ⟨_, .scalar rfl, fun w => by rw [ex]; simp only [builtin, Builtin.len_, ht0, hV]; simp [underlying_run hu]⟩
        · cases h
      case min =>
        split at h
        · rename_i hf
          obtain ⟨hs, hr⟩ := pureS_run h
          rw [VRs.flat_eq hf hall] at ex
          exact ⟨v, .scalar hs, fun w => by rw [ex]; simp only [builtin, Sem.run_bind, hr]; rfl⟩
        · cases h
      case max =>
        split at h
        · rename_i hf
          obtain ⟨hs, hr⟩ := pureS_run h
          rw [VRs.flat_eq hf hall] at ex
          exact ⟨v, .scalar hs, fun w => by rw [ex]; simp only [builtin, Sem.run_bind, hr]; rfl⟩
        · cases h
end

end Go.Ab
