/- The abstract machine: append. -/
import Derived.Test.YtmipibapdgcgnaaAbE
namespace Go.Ab
open Go

section
variable {P : Program} {ev EV : Operand → Value} {ρ ρ' : Ren} {n n' : Scope} {B G : Nat} {get : Get} {w w' : World}

/-- A block is forgotten. -/
theorem HR.del (hr : HR B G ρ n get w) (id : Nat) : HR B G ρ n (upd get id none) w where
  blk := fun j c hj => by unfold upd at hj; split at hj; cases hj; exact hr.blk j c hj
  lt := fun j c hj => by unfold upd at hj; split at hj; cases hj; exact hr.lt j c hj
  inj := fun i j hi hj he => by
    have conv : ∀ i, own (upd get id none) i → own get i := fun i hi => by
      unfold own upd at hi
      by_cases e : i = id
      · rw [if_pos e] at hi; exact hi.elim
      · rw [if_neg e] at hi; exact hi
    exact hr.inj i j (conv i hi) (conv j hj) he
  glob := hr.glob
  globs := hr.globs
  base := hr.base

theorem own_del {id i : Nat} (h : own (upd get id none) i) : own get i ∧ i ≠ id := by
  unfold own upd at h
  by_cases e : i = id
  · rw [if_pos e] at h; exact h.elim
  · rw [if_neg e] at h; exact ⟨h, e⟩

theorem Step.del (hr : HR B G ρ n get w) (id : Nat) : Step B G ρ n get w ρ n (upd get id none) w where
  hr := hr.del id
  le := fun _ h => h
  agree := fun _ _ => rfl
  size := Nat.le_refl _
  frame := fun _ _ _ => rfl
  foot := fun i hi _ => ⟨i, (own_del hi).1, rfl⟩
  os := rfl
  tape := rfl
  output := rfl

/-- A block of one's own goes on under another number. -/
theorem HR.moveBlk (hr : HR B G ρ n get w) {id k : Nat} {b : Blk} (ho : own get id) (hnk : ¬ n k) (hnm : ∀ i, n i → n' i) (hmk : n' k) (hρ : ∀ i, n i → ρ' i = ρ i) (hn : (ρ' k).blk = (ρ id).blk) (hb : BlkR B ρ' n' w' k b)
    (hs : w'.heap.size = w.heap.size) (hf : ∀ k, k ≠ (ρ id).blk → w'.heap[k]? = w.heap[k]?) (h1 : w'.os = w.os) (h2 : w'.tape = w.tape) (h3 : w'.output = w.output) :
    Step B G ρ n get w ρ' n' (upd (upd get id none) k (some b)) w' where
  hr := {
    blk := fun j c hj => by
      unfold upd at hj
      split at hj
      · rename_i e; subst e; cases hj; exact hb
      · rename_i e
        split at hj
        · cases hj
        · rename_i e2
          have hlt := hr.lt j c hj
          have hbj := hr.blk j c hj
          refine (hbj.mono hlt hρ hnm).frame (hf _ fun heq => ?_)
          rw [hρ j hlt] at heq
          cases hoj : ownB c with
          | true => exact e2 (hr.inj j id (own_iff.2 ⟨c, hj, hoj⟩) ho heq)
          | false =>
            have a1 := hbj.ro hoj
            obtain ⟨b0, hb0, hob0⟩ := own_iff.1 ho
            have a2 := (hr.blk id b0 hb0).base hob0
            omega
    lt := fun j c hj => by
      unfold upd at hj
      split at hj
      · rename_i e; rw [e]; exact hmk
      · split at hj
        · cases hj
        · exact hnm _ (hr.lt _ _ hj)
    inj := fun i j hi hj he => by
      have conv : ∀ i, i ≠ k → own (upd (upd get id none) k (some b)) i → own get i ∧ i ≠ id ∧ n i := fun i e hi => by
        have : own (upd get id none) i := by unfold own at hi ⊢; unfold upd at hi ⊢; rw [if_neg e] at hi; exact hi
        obtain ⟨a1, a2⟩ := own_del this
        obtain ⟨c, hc, _⟩ := own_iff.1 a1
        exact ⟨a1, a2, hr.lt _ _ hc⟩
      by_cases e1 : i = k
      · by_cases e2 : j = k
        · rw [e1, e2]
        · obtain ⟨q1, q2, q3⟩ := conv j e2 hj
          rw [hρ j q3, e1, hn] at he
          exact absurd (hr.inj j id q1 ho he.symm) q2
      · obtain ⟨p1, p2, p3⟩ := conv i e1 hi
        by_cases e2 : j = k
        · rw [hρ i p3, e2, hn] at he
          exact absurd (hr.inj i id p1 ho he) p2
        · obtain ⟨q1, q2, q3⟩ := conv j e2 hj
          rw [hρ i p3, hρ j q3] at he
          exact hr.inj i j p1 q1 he
    glob := fun g hg => by rw [hρ g (hr.globs g hg)]; exact hr.glob g hg
    globs := fun g hg => hnm g (hr.globs g hg)
    base := by rw [hs]; exact hr.base }
  le := hnm
  agree := hρ
  size := by omega
  frame := fun k hk hne => hf k (fun e => hne id ho e.symm)
  foot := fun i hi hlt => by
    by_cases e : i = k
    · subst e; exact ⟨id, ho, hn.symm⟩
    · have : own (upd get id none) i := by unfold own at hi ⊢; unfold upd at hi ⊢; rw [if_neg e] at hi; exact hi
      obtain ⟨a1, a2⟩ := own_del this
      obtain ⟨c, hc, _⟩ := own_iff.1 a1
      exact ⟨i, a1, by rw [hρ i (hr.lt _ _ hc)]⟩
  os := h1
  tape := h2
  output := h3

/-- What a source gives. -/
theorem srcCells_rel (hr : HR B G ρ n get w) {size m l' : Nat} {v V : Value} {l : List Value} (hv : VR ρ n v V) (hm : m ≤ l') (hl' : lenP v = some l') (h : srcCells get size m v = some l) :
    ∃ L : List Value, L.length = m * size ∧ VRs ρ n l.toArray L.toArray ∧ ∀ w2 : World, w2.heap = w.heap → (Builtin.firstCells size m V).run P w2 = .ok L.toArray w2 := by
  unfold srcCells at h
  split at h
  · rename_i hm0
    subst hm0
    cases h
    refine ⟨[], by rw [Nat.zero_mul]; rfl, ⟨rfl, fun i x y hx _ => by simp at hx⟩, fun w2 _ => ?_⟩
    cases v with
    | slice a l c =>
      cases a with
      | none => rw [(hv.nilslice).1]; simp [Builtin.firstCells]
      | some a => obtain ⟨_, A, c', rfl, _⟩ := hv.slice_any; simp only [Builtin.firstCells, Nat.zero_mul]; rfl
    | string s =>
      rw [hv.string_inv]
      simp only [Builtin.firstCells, Sem.run_pure]
      congr 1
      apply Array.ext'
      simp only [Array.toList_map, ByteArray.data_extract, Array.toList_extract, List.extract_eq_take_drop, List.drop_zero, Nat.sub_zero, List.take_zero, List.map_nil]
    | _ => simp [lenP] at hl'
  · rename_i hm0
    split at h
    · rename_i a l1 c1
      simp only [lenP, Option.some.injEq] at hl'
      subst hl'
      obtain ⟨_, A, c', rfl, _, har⟩ := hv.slice_any
      obtain ⟨hlen, L, hL, hrel, hc⟩ := cellsAt_rel hr (har (by omega)) h
      refine ⟨L, hL, hrel, fun w2 hw2 => run_firstCells_some w2 size m A l1 c' L hL fun j u hj => ?_⟩
      rw [← hc j u hj]
      simp [World.cell?, hw2]
    · rename_i s
      split at h
      · rename_i hs1
        cases h
        simp only [lenP, Option.some.injEq] at hl'
        subst hs1
        have hsz : s.data.toList.length = s.size := Array.length_toList
        refine ⟨_, ?_, VRs.refl_list fun v hv => ?_, fun w2 _ => ?_⟩
        · simp only [List.length_map, List.length_take]; omega
        · simp only [List.mem_map] at hv; obtain ⟨b, _, rfl⟩ := hv; exact .scalar rfl
        · rw [hv.string_inv]
          simp only [Builtin.firstCells, Sem.run_pure]
          congr 1
          apply Array.ext'
          simp only [Array.toList_map, ByteArray.data_extract, Array.toList_extract, List.extract_eq_take_drop, List.drop_zero, Nat.sub_zero]
      · cases h
    · cases h

theorem srcLen (v V : Value) {l : Nat} (hv : VR ρ n v V) (h : lenP v = some l) (w : World) : (Builtin.lenOf V).run P w = .ok l w := by
  cases v with
  | slice a l' c =>
    simp only [lenP, Option.some.injEq] at h; subst h
    cases a with
    | none => obtain ⟨rfl, rfl, rfl⟩ := hv.nilslice; rfl
    | some a => obtain ⟨_, A, c', rfl, _⟩ := hv.slice_any; rfl
  | string s => simp only [lenP, Option.some.injEq] at h; subst h; rw [hv.string_inv]; rfl
  | _ => simp [lenP] at h

/-- The rest of append, behind the number of what is appended. -/
def appTail (size : Nat) (base : Option Addr) (sLen sCap : Nat) (elem : TypeId) (zeros : Bool) (x : Value) (n : Nat) (appended : Sem (Array Value)) : Sem Value := do
  let need := sLen + n
  if need ≤ sCap then
    let new ← appended
    if let some a := base then storeCells (a.add (sLen * size)) new.toList
    pure (.slice base need sCap)
  else
    if (need : Int) > IntKind.i64.max ∧ (zeros ∨ (← typeInfo elem).bytes = 0) then runtimePanic (.error "growslice: len out of range")
    if Builtin.nextslicecap need sCap * (← typeInfo elem).bytes > 2 ^ 48 then (if zeros then runtimePanic (.error "growslice: len out of range") else do
      if !(← Builtin.mayShare size sLen n base x) then mark .noRoom
      unsupported (.resourceLimit "append: a slice or a string whose bytes no memory bears"))
    let newCap ← choose (.appendCap need sCap elem)
    askRoom (newCap * (← typeInfo elem).bytes)
    let old ← Builtin.firstCells size sLen (.slice base sLen sCap)
    let new ← appended
    let rest := Builtin.zeroCells (← zeroValue elem).cells (newCap - need)
    pure (.slice (some (← newRow elem (old ++ new ++ rest))) need newCap)

theorem append_int {argTypes : Array TypeId} {args : Array Value} {ty t0 t1 e : TypeId} {k k' : IntKind} {base : Option Addr} {sLen sCap m : Nat} {info : TypeInfo}
    (h0 : argTypes[0]? = some t0) (h1 : argTypes[1]? = some t1) (a0 : args[0]? = some (.slice base sLen sCap)) (a1 : args[1]? = some (.int k' (m : Int))) (ht : P.underlying t0 = some (.slice e)) (hd : P.underlying t1 = some (.int k))
    (hi : P.info? e = some info) (hm1 : m ≤ 1099511627776) (hm2 : m * info.bytes ≤ 1099511627776) (w : World) :
    (Builtin.append_ argTypes ty args).run P w = (appTail info.size base sLen sCap e true (.int k' (m : Int)) m (if m * info.size = 0 then pure #[] else do pure (Builtin.zeroCells (← zeroValue e).cells m))).run P w := by
  have hsz : ∀ w, (sizeOf e).run P w = .ok info.size w := fun w => by simp [sizeOf, typeInfo, hi]
  have hti : ∀ w, (typeInfo e).run P w = .ok info w := fun w => by simp [typeInfo, hi]
  have hw : IntKind.i64.wrap (m : Int) = m := by rw [IntKind.wrap_i64]; omega
  have hneg : ¬ ((m : Int) < 0) := by omega
  have hbig : ¬ ((m : Int) * info.bytes > 2 ^ 48) := by
    have : ((m * info.bytes : Nat) : Int) ≤ 1099511627776 := by omega
    rw [Int.natCast_mul] at this; omega
  unfold Builtin.append_
  simp only [h0, a0, a1, h1, Sem.run_bind, underlying_run ht, Result.andThen_ok, hsz, underlying_run hd, Sem.run_pure, asInt, asIntOf, hw, if_true]
  rw [if_neg hneg]
  simp only [Sem.run_bind, hti, Result.andThen_ok]
  rw [if_neg hbig]
  simp only [Sem.run_bind, Sem.run_pure, Result.andThen_ok, Int.toNat_natCast]
  unfold appTail
  simp only [Bool.not_true, Bool.false_eq_true, if_false, if_true]
  rfl

theorem append_src {argTypes : Array TypeId} {args : Array Value} {ty t0 t1 e : TypeId} {d : TypeDesc} {base : Option Addr} {sLen sCap m : Nat} {X : Value} {info : TypeInfo}
    (h0 : argTypes[0]? = some t0) (h1 : argTypes[1]? = some t1) (a0 : args[0]? = some (.slice base sLen sCap)) (a1 : args[1]? = some X) (ht : P.underlying t0 = some (.slice e)) (hd : P.underlying t1 = some d)
    (hi : P.info? e = some info) (hni : isIntD d = false) (hm : ∀ w, (Builtin.lenOf X).run P w = .ok m w) (w : World) :
    (Builtin.append_ argTypes ty args).run P w = (appTail info.size base sLen sCap e false X m (Builtin.firstCells info.size m X)).run P w := by
  have hsz : ∀ w, (sizeOf e).run P w = .ok info.size w := fun w => by simp [sizeOf, typeInfo, hi]
  unfold Builtin.append_
  simp only [h0, a0, a1, h1, Sem.run_bind, underlying_run ht, Result.andThen_ok, hsz, underlying_run hd, Sem.run_pure]
  cases d <;> first
    | (simp [isIntD] at hni; done)
    | (simp only [Bool.false_eq_true, if_false, Sem.run_bind, hm, Result.andThen_ok]
       unfold appTail
       simp only [Bool.not_false, Bool.false_eq_true, if_false, if_true]
       rfl)

theorem tail_room {size : Nat} {base : Option Addr} {sLen sCap m : Nat} {e : TypeId} {zb : Bool} {X : Value} {ap : Sem (Array Value)} {L : List Value} (hroom : sLen + m ≤ sCap) (hap : ap.run P w = .ok L.toArray w)
    (hst : match base with | some A => (storeCells (A.add (sLen * size)) L).run P w = .ok () w' | none => w' = w) : (appTail size base sLen sCap e zb X m ap).run P w = .ok (.slice base (sLen + m) sCap) w' := by
  unfold appTail
  rw [if_pos hroom]
  cases base with
  | none => simp only at hst; subst hst; simp [hap]
  | some A => simp only at hst; simp [hap, hst]

theorem tail_grow {base : Option Addr} {sLen sCap m : Nat} {e : TypeId} {zb : Bool} {X : Value} {ap : Sem (Array Value)} {info : TypeInfo} {z : Value} {L O : List Value} (hroom : sCap < sLen + m)
    (hi : P.info? e = some info) (hz : info.zero = some z) (hb : info.bytes ≠ 0) (hfit : (sLen + m) * info.bytes ≤ 1099511627776)
    (hap : ∀ w2 : World, w2.heap = w.heap → ap.run P w2 = .ok L.toArray w2) (ho : ∀ w2 : World, w2.heap = w.heap → (Builtin.firstCells info.size sLen (.slice base sLen sCap)).run P w2 = .ok O.toArray w2) :
    (appTail info.size base sLen sCap e zb X m ap).run P w =
      .ok (.slice (some ⟨w.heap.size, 0, none⟩) (sLen + m) (grownCap w (sLen + m) sCap e)) (w.drew.alloc (.cells (O.toArray ++ L.toArray ++ Builtin.zeroCells z.cells (grownCap w (sLen + m) sCap e - (sLen + m))) e)) := by
  have hti : ∀ w, (typeInfo e).run P w = .ok info w := fun w => by simp [typeInfo, hi]
  have hzv : ∀ w, (zeroValue e).run P w = .ok z w := fun w => by simp [zeroValue, typeInfo, hi, hz]
  have hn : sLen + m ≤ 1099511627776 := Nat.le_trans (Nat.le_mul_of_pos_right _ (by omega)) hfit
  have h1 : ¬ (((sLen + m : Nat) : Int) > IntKind.i64.max) := by
    have : IntKind.i64.max = 9223372036854775807 := by decide
    rw [this]; omega
  have h2 : ¬ (Builtin.nextslicecap (sLen + m) sCap * info.bytes > 2 ^ 48) := by
    have := growslice_fits (bytes := info.bytes) hroom (by omega)
    omega
  have h3 : (Question.appendCap (sLen + m) sCap e).forced = false := rfl
  unfold appTail
  rw [if_neg (by omega)]
  simp only [Sem.run_bind, hti, Result.andThen_ok, Sem.run_ite, h1, false_and, if_false, if_neg h2, Sem.run_pure, run_choose, h3, Bool.false_eq_true, run_askRoom, World.drew_eq]
  rw [ho w.drew rfl]
  simp only [Result.andThen_ok]
  rw [hap w.drew rfl]
  simp only [Result.andThen_ok, hzv, newRow, Sem.run_bind, run_newObj, Sem.run_pure, World.alloc_eq]
  rfl

theorem CellsR.append {os ls : List Value} {O L R : Array Value} (h1 : VRs ρ n os.toArray O) (h2 : VRs ρ n ls.toArray L) : CellsR ρ n (os ++ ls) (O ++ L ++ R) 0 := by
  have l1 : os.length = O.size := by have := h1.1; simpa using this
  have l2 : ls.length = L.size := by have := h2.1; simpa using this
  intro i v hv
  rw [Nat.zero_add]
  rw [List.getElem?_append] at hv
  split at hv
  · rename_i hi
    obtain ⟨V, hV, hr⟩ := h1.get (i := i) (x := v) (by simpa using hv)
    refine ⟨V, ?_, hr⟩
    rw [Array.getElem?_append_left (by simp; omega), Array.getElem?_append_left (by omega)]; exact hV
  · rename_i hi
    obtain ⟨V, hV, hr⟩ := h2.get (i := i - os.length) (x := v) (by simpa using hv)
    have := (List.getElem?_eq_some_iff.1 hv).1
    refine ⟨V, ?_, hr⟩
    rw [Array.getElem?_append_left (by simp; omega), Array.getElem?_append_right (by omega), ← l1]; exact hV

theorem appendE_sound {h h' : Heap} {argTypes : Array TypeId} {args : Array Value} {ty : TypeId} {s x S X v : Value} (hr : HR B G ρ (lts h.next) h.get w) (hs : VR ρ (lts h.next) s S) (hx : VR ρ (lts h.next) x X)
    (ha0 : args[0]? = some S) (ha1 : args[1]? = some X) (he : appendE P argTypes s x h = some (v, h')) :
    ∃ V w' ρ', (Builtin.append_ argTypes ty args).run P w = .ok V w' ∧ Step B G ρ (lts h.next) h.get w ρ' (lts h'.next) h'.get w' ∧ VR ρ' (lts h'.next) v V := by
  unfold appendE at he
  split at he
  case h_2 => cases he
  rename_i e d base sLen sCap ht hd
  simp only [Option.bind_eq_some_iff] at he
  obtain ⟨info, hi, z, hz, m, hm, he⟩ := he
  obtain ⟨t0, ht0, ht⟩ := Option.bind_eq_some_iff.1 ht
  obtain ⟨t1, ht1, hd⟩ := Option.bind_eq_some_iff.1 hd
  -- the slice, in the world
  obtain ⟨baseC, capC, rfl, hbase, hlc⟩ : ∃ baseC capC, S = .slice baseC sLen capC ∧ (base = none → baseC = none ∧ sLen = 0 ∧ capC = 0 ∧ sCap = 0) ∧ sLen ≤ capC := by
    cases base with
    | none => obtain ⟨rfl, rfl, rfl⟩ := hs.nilslice; exact ⟨none, 0, rfl, fun _ => ⟨rfl, rfl, rfl, rfl⟩, Nat.le_refl _⟩
    | some a => obtain ⟨_, A, c', rfl, hl, _⟩ := hs.slice_any; exact ⟨some A, c', rfl, fun h => (by cases h), hl⟩
  -- the number of what is appended, and the run
  have hrun : ∀ (hb : m * info.bytes ≤ 1099511627776), ∃ (zb : Bool) (ap : Sem (Array Value)),
      (∀ w, (Builtin.append_ argTypes ty args).run P w = (appTail info.size baseC sLen capC e zb X m ap).run P w) ∧
      ∀ l, appNew h.get d z.cells.toList info.size m x = some l → (m = 0 ∨ (closedN 3 z = true ∧ z.cells.size = info.size)) → ∃ L : List Value, L.length = m * info.size ∧ VRs ρ (lts h.next) l.toArray L.toArray ∧ ∀ w2 : World, w2.heap = w.heap → ap.run P w2 = .ok L.toArray w2 := by
    intro hb
    unfold appN at hm
    unfold appNew
    cases hz1 : isIntD d with
    | true =>
      rw [hz1] at hm
      simp only [if_true] at hm ⊢
      obtain ⟨k', rfl, hm1⟩ := within_inv hm hx
      cases d <;> simp [isIntD] at hz1
      rename_i k
      refine ⟨true, _, append_int ht0 ht1 ha0 ha1 ht hd hi hm1 hb, fun l hl hcz => ?_⟩
      cases hl
      rcases hcz with rfl | ⟨hc, hzs⟩
      · exact ⟨[], by rw [Nat.zero_mul]; rfl, ⟨rfl, fun i x y hx _ => by simp [zerosL] at hx⟩, fun w2 _ => by rw [if_pos (by omega)]; rfl⟩
      refine ⟨(Builtin.zeroCells z.cells m).toList, by simp [Builtin.zeroCells, hzs], ?_, fun w2 _ => ?_⟩
      · rw [← zerosL_zeroCells]
        simpa using zeros_rel hc m
      · by_cases h0 : m * info.size = 0
        · rw [if_pos h0]
          have : Builtin.zeroCells z.cells m = #[] := by apply Array.eq_empty_of_size_eq_zero; simp [Builtin.zeroCells, hzs, h0]
          rw [this]; rfl
        · rw [if_neg h0]
          have hzv : (zeroValue e).run P w2 = .ok z w2 := by simp [zeroValue, typeInfo, hi, hz]
          simp only [Sem.run_bind, hzv, Result.andThen_ok, Sem.run_pure, Array.toArray_toList]
    | false =>
      rw [hz1] at hm
      simp only [Bool.false_eq_true, if_false] at hm ⊢
      refine ⟨false, _, append_src ht0 ht1 ha0 ha1 ht hd hi hz1 (srcLen x X hx hm), fun l hl _ => ?_⟩
      exact srcCells_rel hr hx (Nat.le_refl _) hm hl
  split at he
  · -- nothing is appended
    rename_i hm0
    subst hm0
    cases he
    obtain ⟨zb, ap, hra, hap⟩ := hrun (by omega)
    -- the cells are none
    obtain ⟨L, hLl, _, hL⟩ := hap (if isIntD d then zerosL z.cells.toList 0 else []) (by unfold appNew srcCells; split <;> simp) (.inl rfl)
    have : L = [] := List.eq_nil_of_length_eq_zero (by omega)
    subst this
    refine ⟨.slice baseC sLen capC, w, ρ, ?_, Step.refl hr, hs⟩
    rw [hra]
    have := tail_room (P := P) (size := info.size) (base := baseC) (sLen := sLen) (sCap := capC) (m := 0) (e := e) (zb := zb) (X := X) (ap := ap) (L := []) (w := w) (w' := w) (by omega) (hL w rfl) (by cases baseC <;> rfl)
    exact this
  · rename_i hm0
    split at he
    · cases he
    · rename_i hc
      simp only [Bool.or_eq_true, Bool.not_eq_true', not_or, Bool.not_eq_true, Bool.not_eq_false] at hc
      obtain ⟨⟨⟨⟨hc1, hc2⟩, hc3⟩, hc4⟩, hc5⟩ := hc
      have hc2 := Nat.eq_of_beq_eq_true hc2
      have hc3 : info.size ≠ 0 := fun e => by rw [e] at hc3; simp at hc3
      have hc4 : info.bytes ≠ 0 := fun e => by rw [e] at hc4; simp at hc4
      have hc5 : (sLen + m) * info.bytes ≤ 1099511627776 := by
        rcases Nat.lt_or_ge 1099511627776 ((sLen + m) * info.bytes) with hh | hh
        · rw [blt_iff.2 hh] at hc5; cases hc5
        · exact hh
      have hmb : m * info.bytes ≤ 1099511627776 := Nat.le_trans (Nat.mul_le_mul_right _ (by omega)) hc5
      have hsm : sLen + m ≤ 1099511627776 := Nat.le_trans (Nat.le_mul_of_pos_right _ (by omega)) hc5
      obtain ⟨zb, ap, hra, hap⟩ := hrun hmb
      simp only [Option.bind_eq_some_iff] at he
      obtain ⟨new, hnew, old, hold, he⟩ := he
      obtain ⟨L, hLl, hLr, hLrun⟩ := hap new hnew (.inr ⟨hc1, hc2⟩)
      obtain ⟨O, hOl, hOr, hOrun⟩ := srcCells_rel hr hs (Nat.le_refl _) rfl hold
      have hge := grownCap_ge w (sLen + m) capC e
      -- where a new row is made
      have hgrow : capC < sLen + m → ∀ (g : Heap), g.next = h.next → HR B G ρ (lts g.next) g.get w → (∀ i, own g.get i → own h.get i) →
          ∃ V w' ρ', (Builtin.append_ argTypes ty args).run P w = .ok V w' ∧ Step B G ρ (lts h.next) h.get w ρ' (lts (g.alloc (.cells true (old ++ new))).next) (g.alloc (.cells true (old ++ new))).get w' ∧ VR ρ' (lts (g.alloc (.cells true (old ++ new))).next) (.slice (some ⟨h.next, 0, none⟩) (sLen + m) (unk info.size)) V := by
        intro hg g hgn hgr hgo
        have hrun := tail_grow (P := P) (zb := zb) (X := X) (ap := ap) (base := baseC) hg hi hz hc4 hc5 hLrun hOrun
        refine ⟨_, _, fun i => if i = h.next then ⟨w.heap.size, 0, grownCap w (sLen + m) capC e * info.size⟩ else ρ i, by rw [hra]; exact hrun, ?_, ?_⟩
        · have hsize : (O.toArray ++ L.toArray ++ Builtin.zeroCells z.cells (grownCap w (sLen + m) capC e - (sLen + m))).size = grownCap w (sLen + m) capC e * info.size := by
            simp only [Array.size_append, List.size_toArray, hOl, hLl, Builtin.zeroCells, Array.size_map, Array.size_range, hc2]
            rw [← Nat.add_mul, ← Nat.add_mul]
            congr 1; omega
          have st := hgr.newBlk (id := g.next) (m := lts (g.next + 1)) (b := .cells true (old ++ new)) (w' := w.drew.alloc (.cells (O.toArray ++ L.toArray ++ Builtin.zeroCells z.cells (grownCap w (sLen + m) capC e - (sLen + m))) e))
            (ρ' := fun i => if i = h.next then ⟨w.heap.size, 0, grownCap w (sLen + m) capC e * info.size⟩ else ρ i) (Nat.lt_irrefl _) (fun i hi => Nat.lt_succ_of_lt hi) (Nat.lt_succ_self _) ⟨by simp, fun k hk => heap_alloc_old w.drew _ k hk, rfl, rfl, rfl⟩
            (fun i hi => by have hi : i < g.next := hi; rw [hgn] at hi; simp [Nat.ne_of_lt hi]) (by simp [hgn]) (by
              refine ⟨by simp only [hgn, if_true]; exact hr.base, _, e, (0, 0), by simp only [hgn, if_true]; exact heap_alloc_new w.drew _, by simp only [hgn, if_true]; exact hsize, fun o _ hh => by simp at hh, ?_⟩
              simp only [hgn, if_true]
              exact (CellsR.append hOr hLr).mono (fun i hi => by have hi : i < h.next := hi; simp [Nat.ne_of_lt hi]) (fun i hi => by have hi : i < h.next := hi; show i < h.next + 1; omega))
          rw [Heap.get_alloc, Heap.next_alloc]
          exact { st with
            le := fun i hi => st.le i (by have hi : i < h.next := hi; show i < g.next; omega)
            agree := fun i hi => st.agree i (by have hi : i < h.next := hi; show i < g.next; omega)
            frame := fun k hk hf => st.frame k hk fun i hi => hf i (hgo i hi)
            foot := fun i hi hlt => let ⟨j, hj, e⟩ := st.foot i hi hlt; ⟨j, hgo j hj, e⟩ }
        · refine .sliceU ⟨by simp [hgn], rfl, by simp⟩ hge (by simp)
      split at he
      · -- no room, for certain
        rename_i hlt
        cases he
        have hcap : capC < sLen + m := by
          cases base with
          | none => obtain ⟨_, _, h1, h2⟩ := hbase rfl; omega
          | some a =>
            have hcu : sCap < UNK := by unfold UNK; omega
            obtain ⟨A, hA, _⟩ := hs.slice_inv hcu
            cases hA
            exact hlt
        exact hgrow hcap h rfl hr (fun i hi => hi)
      · rename_i hlt
        split at he
        · cases he
        · rename_i a
          split at he
          · rename_i cs hg
            split at he
            · rename_i hcond
              cases he
              simp only [Bool.and_eq_true, Bool.or_eq_true] at hcond
              obtain ⟨hcond, hone⟩ := hcond
              have hdel : HR B G ρ (lts (h.del a.block).next) (h.del a.block).get w := by rw [Heap.get_del]; exact hr.del _
              by_cases hcap : capC < sLen + m
              · exact hgrow hcap (h.del a.block) rfl hdel (fun i hi => by rw [Heap.get_del] at hi; exact (own_del hi).1)
              · -- there is room
                have hcap : sLen + m ≤ capC := by omega
                have hown : own h.get a.block := own_iff.2 ⟨_, hg, rfl⟩
                have hab := hr.lt _ _ hg
                obtain ⟨hB, C, t, fz, hC, hlim, hfz, hcr⟩ := hr.blk _ _ hg
                -- where it lies, and its room
                obtain ⟨A, rfl, har, hroom⟩ : ∃ A, baseC = some A ∧ AR ρ (lts h.next) a A ∧ A.off + capC * info.size ≤ C.size := by
                  rcases hcond with hu | ⟨hex, hfit⟩
                  · have hu := Nat.eq_of_beq_eq_true hu
                    subst hu
                    obtain ⟨_, A, c, hA, hcase⟩ := hs.sliceU_inv
                    cases hA
                    rcases hcase with ⟨h1, _, h3⟩ | ⟨_, rfl⟩
                    · exact ⟨A, rfl, h1, by rw [hlim]; exact h3⟩
                    · omega
                  · have hex := blt_iff.1 hex
                    obtain ⟨A, hA, _, har, _⟩ := hs.slice_inv hex
                    injection hA with e1 _ e3
                    have har := har.resolve_right (by omega)
                    refine ⟨A, e1, har, ?_⟩
                    have hfit : a.off + capC * info.size ≤ cs.length := by rw [e3]; simpa using hfit
                    have hpos : 0 < capC * info.size := Nat.mul_pos (by omega) (by omega)
                    have hlt2 : a.off + capC * info.size - 1 < cs.length := by omega
                    obtain ⟨V, hV, _⟩ := hcr (a.off + capC * info.size - 1) cs[a.off + capC * info.size - 1] (List.getElem?_eq_getElem hlt2)
                    have := (Array.getElem?_eq_some_iff.1 hV).1
                    obtain ⟨_, _, rfl⟩ := har
                    simp only
                    omega
                obtain ⟨_, _, rfl⟩ := har
                simp only at hroom
                have hmul : sLen * info.size + m * info.size ≤ capC * info.size := by rw [← Nat.add_mul]; exact Nat.mul_le_mul_right _ hcap
                have hLone : ∀ V ∈ L, oneCell V = true := fun V hV => by
                  obtain ⟨i, hi⟩ := List.mem_iff_getElem?.1 hV
                  have hll : new.length = L.length := by have := hLr.1; simpa using this
                  have hil : i < new.length := by rw [hll]; exact (List.getElem?_eq_some_iff.1 hi).1
                  simp only [List.all_eq_true] at hone
                  exact (hLr.2 i new[i] V (by simp [hil]) (by simpa using hi)).oneCell (hone _ (by simp))
                have hst := run_storeRow (P := P) (ρ a.block).blk ((ρ a.block).delta + a.off + sLen * info.size) t fz L 0 C w hC (by rw [hLl]; omega) hfz hLone
                rw [Nat.add_zero] at hst
                refine ⟨_, _, fun i => if i = h.next then ⟨(ρ a.block).blk, (ρ a.block).delta + a.off, C.size⟩ else ρ i, by rw [hra]; exact tail_room (by omega) (hLrun w rfl) (by simp only [Addr_add_plain]; exact hst), ?_, ?_⟩
                · rw [Heap.get_alloc, Heap.get_del, Heap.next_alloc, Heap.next_del]
                  refine hr.moveBlk hown (Nat.lt_irrefl _) (fun i hi => Nat.lt_succ_of_lt hi) (Nat.lt_succ_self _) (fun i hi => by have hi : i < h.next := hi; simp [Nat.ne_of_lt hi]) (by simp) ?_ (by simp) (fun k hk => setRow_other w _ k _ hk) rfl rfl rfl
                  refine ⟨by simp; exact hB, _, t, fz, by simp only [if_true]; exact setRow_heap w _ C _ t fz hC, ?_, ?_, ?_⟩
                  · simp; omega
                  · intro o ho
                    refine hfz o ?_
                    simp at ho; omega
                  · simp only [if_true]
                    have hol : old.length = sLen * info.size := by have := hOr.1; simp at this; omega
                    have hnl : new.length = m * info.size := by have := hLr.1; simp at this; omega
                    intro i v hv
                    rw [List.getElem?_append] at hv
                    split at hv
                    · rename_i hi
                      -- an old cell
                      have hcell : ∃ V, C[(ρ a.block).delta + a.off + i]? = some V ∧ VR ρ (lts h.next) v V := by
                        unfold srcCells at hold
                        split at hold
                        · cases hold; simp at hi
                        · simp only at hold
                          unfold cellsAt at hold
                          rw [hg] at hold
                          simp only at hold
                          split at hold
                          · cases hold
                            rw [List.getElem?_take] at hv
                            split at hv
                            · rw [List.getElem?_drop] at hv
                              obtain ⟨V, hV, hvr⟩ := hcr _ _ hv
                              exact ⟨V, by rw [Nat.add_assoc]; exact hV, hvr⟩
                            · cases hv
                          · cases hold
                      obtain ⟨V, hV, hvr⟩ := hcell
                      refine ⟨V, ?_, hvr.mono (fun i hi => by have hi : i < h.next := hi; simp [Nat.ne_of_lt hi]) (fun i hi => Nat.lt_succ_of_lt hi)⟩
                      have hlt := (Array.getElem?_eq_some_iff.1 hV).1
                      simp only [List.getElem?_toArray]
                      rw [List.append_assoc, List.getElem?_append_left (by simp; omega), List.getElem?_take, if_pos (by omega)]
                      simpa using hV
                    · rename_i hi
                      have hvn := (List.getElem?_eq_some_iff.1 hv).1
                      have hLi : i - old.length < L.length := by omega
                      have hVr := hLr.2 (i - old.length) v L[i - old.length] (by simpa using hv) (by simp [hLi])
                      refine ⟨L[i - old.length], ?_, hVr.mono (fun i hi => by have hi : i < h.next := hi; simp [Nat.ne_of_lt hi]) (fun i hi => Nat.lt_succ_of_lt hi)⟩
                      simp only [List.getElem?_toArray]
                      rw [List.append_assoc, List.getElem?_append_right (by simp; omega), List.getElem?_append_left (by simp; omega)]
                      simp only [List.length_take, Array.length_toList]
                      have : (ρ a.block).delta + a.off + i - min ((ρ a.block).delta + a.off + sLen * info.size) C.size = i - old.length := by omega
                      rw [this]; simp [hLi]
                · exact .sliceU ⟨by simp, rfl, by simp⟩ hcap (by simpa using hroom)
            · cases he
          · cases he

end

end Go.Ab
