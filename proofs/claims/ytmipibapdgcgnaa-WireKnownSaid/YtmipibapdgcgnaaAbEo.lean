/- The abstract machine: every operation that writes memory is the model's. -/
import Derived.Test.YtmipibapdgcgnaaAbApp
namespace Go.Ab
open Go

section
variable {P : Program} {ev EV : Operand → Value} {ρ ρ' : Ren} {n n' : Scope} {B G : Nat} {get : Get} {w w' : World}

def setO (w : World) (r : Nat) (o : Obj) : World := { w with heap := w.heap.setIfInBounds r o }

theorem setO_run {r : Nat} {o o' : Obj} (h : w.heap[r]? = some o') (hc : ∀ c t f, o' ≠ .cells c t f) : (setObj r o).run P w = .ok () (setO w r o) := by
  cases o' <;> first | exact absurd rfl (hc _ _ _) | (unfold setObj; simp only [Sem.run, h]; done) | (unfold setObj; simp only [Sem.run, h]; rfl)

theorem getO_run {r : Nat} {o' : Obj} (h : w.heap[r]? = some o') (hc : ∀ c t f, o' ≠ .cells c t f) : (getObj r).run P w = .ok o' w := by
  cases o' <;> first | exact absurd rfl (hc _ _ _) | (unfold getObj; simp only [Sem.run, h]; done) | (unfold getObj; simp only [Sem.run, h]; rfl)

theorem setO_size (w : World) (r : Nat) (o : Obj) : (setO w r o).heap.size = w.heap.size := by simp [setO]
theorem setO_same {r : Nat} {o o' : Obj} (h : w.heap[r]? = some o') : (setO w r o).heap[r]? = some o := by
  have := (Array.getElem?_eq_some_iff.1 h).1
  simp [setO, this]
theorem setO_other (w : World) {r k : Nat} (o : Obj) (h : k ≠ r) : (setO w r o).heap[k]? = w.heap[k]? := by
  simp only [setO]
  rw [Array.getElem?_setIfInBounds_ne (Ne.symm h)]

theorem ba_eq {x y : ByteArray} (h : (x == y) = true) : x = y := by
  have h : (x.data == y.data) = true := h
  have := eq_of_beq h
  cases x; cases y; simp_all

theorem ba_refl (x : ByteArray) : (x == x) = true := by
  show (x.data == x.data) = true
  simp

theorem sameNow_eq {kd : TypeDesc} {a b : Value} (h : Instr.sameNow kd a b = some true) (hs : scalar b = true) : a = b ∧ ∀ n, Instr.sameBits n b a = true := by
  unfold Instr.sameNow at h
  split at h
  · rename_i k x k' y
    split at h
    · rename_i hk; subst hk
      have hxy : x = y := by simpa using h
      subst hxy
      exact ⟨rfl, fun n => by cases n <;> simp [Instr.sameBits]⟩
    · cases h
  · rename_i x y
    have hxy : x = y := ba_eq (by simpa using h)
    subst hxy
    exact ⟨rfl, fun n => by cases n <;> simp only [Instr.sameBits] <;> exact ba_refl _⟩
  · rename_i x y
    have hxy : x = y := by simpa using h
    subst hxy
    exact ⟨rfl, fun n => by cases n <;> simp [Instr.sameBits]⟩
  · cases h

theorem findNow_key {kd : TypeDesc} {k : Value} : ∀ (es : List MapEntry) (i j : Nat) (v : Value), Instr.findNow kd k es i = some (some (j, v)) → i ≤ j ∧ ∃ e, es[j - i]? = some e ∧ Instr.sameNow kd k e.key = some true ∧ e.val = v
  | [], i, j, v, h => by simp [Instr.findNow] at h
  | e :: es, i, j, v, h => by
    simp only [Instr.findNow] at h
    cases hs : Instr.sameNow kd k e.key with
    | none => simp [hs] at h
    | some b =>
      cases b with
      | true =>
        simp only [hs, Option.some.injEq, Prod.mk.injEq] at h
        obtain ⟨rfl, rfl⟩ := h
        exact ⟨Nat.le_refl _, e, by simp, hs, rfl⟩
      | false =>
        simp only [hs] at h
        obtain ⟨h1, e', h2, h3⟩ := findNow_key es (i + 1) j v h
        refine ⟨by omega, e', ?_, h3⟩
        have : j - i = (j - (i + 1)) + 1 := by omega
        rw [this]; simpa using h2

theorem EntriesR.set {es : List MapEntry} {Es : Array MapEntry} (hr : EntriesR ρ n es Es) {i : Nat} {e e' E' : MapEntry} (_ : es[i]? = some e) (hk : e'.key = E'.key) (hs : scalar e'.key = true) (hb : e'.born = E'.born) (hv : VR ρ n e'.val E'.val)
    {Es' : Array MapEntry} (hE : ∀ j, Es'[j]? = if j = i then some E' else Es[j]?) (hsz : Es'.size = Es.size) : EntriesR ρ n (es.set i e') Es' := by
  refine ⟨by simp [hr.1, hsz], fun j a A ha hA => ?_⟩
  rw [hE j] at hA
  rw [List.getElem?_set] at ha
  by_cases hji : j = i
  · subst hji
    rw [if_pos rfl] at hA
    rw [if_pos rfl] at ha
    split at ha
    · cases ha; cases hA; exact ⟨hk, hs, hb, hv⟩
    · cases ha
  · rw [if_neg hji] at hA
    rw [if_neg (Ne.symm hji)] at ha
    exact hr.2 j a A ha hA

theorem EntriesR.push {es : List MapEntry} {Es : Array MapEntry} (hr : EntriesR ρ n es Es) {e E : MapEntry} (hk : e.key = E.key) (hs : scalar e.key = true) (hb : e.born = E.born) (hv : VR ρ n e.val E.val) : EntriesR ρ n (es ++ [e]) (Es.push E) := by
  refine ⟨by simp [hr.1], fun j a A ha hA => ?_⟩
  rw [Array.getElem?_push] at hA
  rw [List.getElem?_append] at ha
  split at hA
  · rename_i hj
    subst hj
    rw [if_neg (by rw [hr.1]; omega), hr.1] at ha
    simp at ha
    cases hA; subst ha; exact ⟨hk, hs, hb, hv⟩
  · rename_i hj
    have hlt := (Array.getElem?_eq_some_iff.1 hA).1
    rw [if_pos (by rw [hr.1]; omega)] at ha
    exact hr.2 j a A ha hA

/-- A map of one's own is changed. -/
theorem HR.setMap {h : Heap} (hr : HR B G ρ (lts h.next) h.get w) {r c c' : Nat} {es es' : List MapEntry} {Es' : Array MapEntry} (hg : h.get r = some (.map es c)) (he : EntriesR ρ (lts h.next) es' Es') :
    Step B G ρ (lts h.next) h.get w ρ (lts (h.put r (.map es' c')).next) (h.put r (.map es' c')).get (setO w (ρ r).blk (.map Es' c')) := by
  obtain ⟨hB, Es, hE, _⟩ := hr.blk _ _ hg
  rw [Heap.get_put]
  exact hr.setBlk (own_iff.2 ⟨_, hg, rfl⟩) ⟨hB, Es', setO_same hE, he⟩ rfl (setO_size _ _ _) (fun k hk => setO_other w _ hk) rfl rfl rfl

theorem mapU_sound {h h' : Heap} {t : TypeId} {m k x : Operand} {v : Value} (hr : HR B G ρ (lts h.next) h.get w) (hm : VR ρ (lts h.next) (ev m) (EV m)) (hk : VR ρ (lts h.next) (ev k) (EV k)) (hx : VR ρ (lts h.next) (ev x) (EV x))
    (he : eOp.mapU P ev h t m k x = some (v, h')) : v = undef ∧ ∃ w', (Instr.mapUpdate t (EV m) (EV k) (EV x)).run P w = .ok () w' ∧ Step B G ρ (lts h.next) h.get w ρ (lts h'.next) h'.get w' := by
  unfold eOp.mapU at he
  split at he
  · rename_i key elem r ht ha
    split at he
    · rename_i hb
      simp only [Bool.and_eq_true] at hb
      split at he
      · rename_i es c kd hg hu
        simp only [Option.bind_eq_some_iff] at he
        obtain ⟨f, hf, he⟩ := he
        rw [ha] at hm
        obtain ⟨hM, _⟩ := hm.map_inv
        have hK := hk.scalar_eq hb.2
        obtain ⟨hB, Es, hE, her⟩ := hr.blk _ _ hg
        have hgo := getO_run (P := P) hE (by intro _ _ _ h; cases h)
        have hck := checkKey_run (P := P) (e := false) (k := ev k) hb.1 9999 w
        rcases her.findNow hf with ⟨rfl, hF⟩ | ⟨j, v', V', rfl, hF, hvv, hj⟩
        · cases he
          refine ⟨rfl, _, ?_, hr.setMap hg (her.push (E := { key := ev k, val := EV x, born := c }) rfl hb.2 rfl hx)⟩
          have hso := fun o => setO_run (P := P) (o := o) hE (by intro _ _ _ h; cases h)
          simp only [Instr.mapUpdate, hM, hK, Sem.run_bind, underlying_run ht, Result.andThen_ok, hgo]
          rw [show (10000 : Nat) = 9999 + 1 from rfl, hck]
          simp only [Result.andThen_ok, findKey_run hu hF, hso]
        · simp only [Option.map_eq_some_iff] at he
          obtain ⟨e, hee, heq⟩ := he
          cases heq
          obtain ⟨_, E, hE', hsame, _⟩ := findNow_key Es.toList 0 j V' hF
          have hEj : Es[j]? = some E := by simpa using hE'
          have hEs : scalar E.key = true := by
            obtain ⟨q1, q2, _⟩ := her.2 j e E hee hEj
            rw [← q1]; exact q2
          obtain ⟨hkE, hbits⟩ := sameNow_eq hsame hEs
          obtain ⟨q1, q2, q3, q4⟩ := her.2 j e E hee hEj
          refine ⟨rfl, _, ?_, hr.setMap hg (her.set hee (e' := { e with key := ev k, val := ev x }) (E' := { E with key := ev k, val := EV x }) rfl hb.2 q3 hx (Es' := Es.modify j fun e => { e with key := ev k, val := EV x }) (fun i => ?_) (by simp))⟩
          · have hso := fun o => setO_run (P := P) (o := o) hE (by intro _ _ _ h; cases h)
            simp only [Instr.mapUpdate, hM, hK, Sem.run_bind, underlying_run ht, Result.andThen_ok, hgo]
            rw [show (10000 : Nat) = 9999 + 1 from rfl, hck]
            simp only [Result.andThen_ok, findKey_run hu hF, hEj, Option.map_some, Option.getD_some, Instr.keyThatStays, hbits, if_true, Sem.run_pure, Sem.run_bind, hso]
          · rw [Array.getElem?_modify]
            by_cases hij : i = j
            · subst hij; simp [hEj]
            · simp [hij, Ne.symm hij]
      · cases he
    · cases he
  · cases he

theorem tuple2 {a A b C : Value} (h1 : VR ρ n a A) (h2 : VR ρ n b C) : VR ρ n (.tuple #[a, b]) (.tuple #[A, C]) := .tuple rfl (fun i x y ha hb => by
  match i with
  | 0 => simp at ha hb; subst ha; subst hb; exact h1
  | 1 => simp at ha hb; subst ha; subst hb; exact h2
  | i + 2 => simp at ha)

theorem eOp_sound {h h' : Heap} {o : Oper} {v : Value} (hr : HR B G ρ (lts h.next) h.get w) (hv : ∀ x ∈ o.op.operands, VR ρ (lts h.next) (ev x) (EV x)) (he : eOp P ev o h = some (v, h')) :
    ∃ nx w' ρ' V, (execOp EV o).run P w = .ok nx w' ∧ (nx = .value V ∨ (nx = .skip ∧ V = undef)) ∧ Step B G ρ (lts h.next) h.get w ρ' (lts h'.next) h'.get w' ∧ VR ρ' (lts h'.next) v V := by
  obtain ⟨dst, op, type, pos, after, guard⟩ := o
  cases op <;> simp only [eOp] at he <;> (try (cases he; done)) <;> simp only [Op.operands] at hv
  case insert t m k x =>
    obtain ⟨rfl, w', hrun, hst⟩ := mapU_sound hr (hv m (by simp)) (hv k (by simp)) (hv x (by simp)) he
    exact ⟨.skip, w', ρ, undef, by simp only [execOp, Sem.run_bind, hrun]; rfl, .inr ⟨rfl, rfl⟩, hst, .undef⟩
  case mapUpdate t m k x =>
    obtain ⟨rfl, w', hrun, hst⟩ := mapU_sound hr (hv m (by simp)) (hv k (by simp)) (hv x (by simp)) he
    exact ⟨.skip, w', ρ, undef, by simp only [execOp, Sem.run_bind, hrun]; rfl, .inr ⟨rfl, rfl⟩, hst, .undef⟩
  case store t x y =>
    have hx := hv x (by simp)
    have hy := hv y (by simp)
    split at he
    · rename_i a ha
      simp only [Option.bind_eq_some_iff] at he
      obtain ⟨k, hk, he⟩ := he
      split at he
      · rename_i hsz
        simp only [Option.map_eq_some_iff] at he
        obtain ⟨h1, hs, heq⟩ := he
        cases heq
        have hsz := Nat.eq_of_beq_eq_true hsz
        rw [ha] at hx
        obtain ⟨A, hA, har⟩ := hx.ptr_inv
        obtain ⟨w', hrun, hst⟩ := storeH_sound (P := P) hr har (vs := (ev y).cells.toList) (Vs := (EV y).cells.toList) (by simpa using hy.cells) hs
        refine ⟨.skip, w', ρ, undef, ?_, .inr ⟨rfl, rfl⟩, hst, .undef⟩
        have hsz' : ¬ ((EV y).cells.size ≠ k) := by rw [← hy.cells.1, hsz]; simp
        simp only [execOp, hA, Instr.storeAt, Instr.sureAddr, storeVar, Sem.run_bind, Sem.run_pure, Result.andThen_ok, szOf_run hk]
        rw [if_neg hsz', hrun]
        rfl
      · cases he
    · cases he
  case mapEntry t m k =>
    have hm := hv m (by simp)
    have hk := hv k (by simp)
    split at he
    · rename_i key elem r ht ha
      split at he
      · rename_i hb
        simp only [Bool.and_eq_true] at hb
        split at he
        · rename_i es c kd hg hu
          simp only [Option.bind_eq_some_iff] at he
          obtain ⟨f, hf, he⟩ := he
          rw [ha] at hm
          obtain ⟨hM, _⟩ := hm.map_inv
          have hK := hk.scalar_eq hb.2
          obtain ⟨hB, Es, hE, her⟩ := hr.blk _ _ hg
          have hgo := getO_run (P := P) hE (by intro _ _ _ h; cases h)
          have hck := checkKey_run (P := P) (e := false) (k := ev k) hb.1 9999 w
          have hso := fun o => setO_run (P := P) (o := o) hE (by intro _ _ _ h; cases h)
          rcases her.findNow hf with ⟨rfl, hF⟩ | ⟨j, v', V', rfl, hF, hvv, hj⟩
          · simp only [Option.bind_eq_some_iff] at he
            obtain ⟨z, hz, he⟩ := he
            split at he
            · rename_i hc
              cases he
              have hzz : VR ρ (lts h.next) z z := .of_closed hc
              refine ⟨_, _, ρ, .tuple #[z, goInt c], ?_, .inl rfl, hr.setMap hg (her.push (e := { key := ev k, val := z, born := c }) (E := { key := ev k, val := z, born := c }) rfl hb.2 rfl hzz), tuple2 hzz (.scalar rfl)⟩
              simp only [execOp, Instr.mapEntry, hM, hK, Sem.run_bind, underlying_run ht, Result.andThen_ok, hgo]
              rw [show (10000 : Nat) = 9999 + 1 from rfl, hck]
              simp only [Result.andThen_ok, findKey_run hu hF, zeroOf_run hz, hso, Sem.run_pure, Sem.run_bind]
            · cases he
          · simp only [Option.map_eq_some_iff] at he
            obtain ⟨e, hee, heq⟩ := he
            cases heq
            obtain ⟨_, E, hE', hsame, _⟩ := findNow_key Es.toList 0 j V' hF
            have hEj : Es[j]? = some E := by simpa using hE'
            obtain ⟨q1, q2, q3, q4⟩ := her.2 j e E hee hEj
            have hEs : scalar E.key = true := by rw [← q1]; exact q2
            obtain ⟨hkE, hbits⟩ := sameNow_eq hsame hEs
            refine ⟨_, _, ρ, .tuple #[V', goInt E.born], ?_, .inl rfl, hr.setMap hg (her.set hee (e' := { e with key := ev k }) (E' := { E with key := ev k }) rfl hb.2 q3 q4 (Es' := Es.modify j fun e => { e with key := ev k }) (fun i => ?_) (by simp)), tuple2 hvv (by rw [q3]; exact .scalar rfl)⟩
            · simp only [execOp, Instr.mapEntry, hM, hK, Sem.run_bind, underlying_run ht, Result.andThen_ok, hgo]
              rw [show (10000 : Nat) = 9999 + 1 from rfl, hck]
              simp only [Result.andThen_ok, findKey_run hu hF, hEj, Option.map_some, Option.getD_some, Instr.keyThatStays, hbits, if_true, Sem.run_pure, Sem.run_bind, hso]
            · rw [Array.getElem?_modify]
              by_cases hij : i = j
              · subst hij; simp [hEj]
              · simp [hij, Ne.symm hij]
        · cases he
      · cases he
    · cases he
  case entryStore t m s x =>
    have hm := hv m (by simp)
    have hs := hv s (by simp)
    have hx := hv x (by simp)
    split at he
    · rename_i r k b ha hb
      split at he
      · rename_i es c hg
        simp only [Option.bind_eq_some_iff, Option.map_eq_some_iff] at he
        obtain ⟨i, hi, e, hee, heq⟩ := he
        cases heq
        rw [ha] at hm; rw [hb] at hs
        obtain ⟨hM, _⟩ := hm.map_inv
        obtain ⟨hB, Es, hE, her⟩ := hr.blk _ _ hg
        have hgo := getO_run (P := P) hE (by intro _ _ _ h; cases h)
        have hso := fun o => setO_run (P := P) (o := o) hE (by intro _ _ _ h; cases h)
        have hlt : i < Es.size := by rw [← her.1]; exact (List.getElem?_eq_some_iff.1 hee).1
        have hEj : Es[i]? = some Es[i] := by simp [hlt]
        obtain ⟨q1, q2, q3, q4⟩ := her.2 i e Es[i] hee hEj
        -- the same place
        have hfind : Es.findIdx? (fun e => (e.born : Int) == b) = some i := by
          rw [List.findIdx?_eq_some_iff_getElem] at hi
          obtain ⟨h1, h2, h3⟩ := hi
          rw [Array.findIdx?_eq_some_iff_getElem]
          have conv : ∀ (j : Nat) (hj1 : j < es.length) (hj2 : j < Es.size), es[j].born = Es[j].born := fun j hj1 hj2 => (her.2 j es[j] Es[j] (by simp [hj1]) (by simp [hj2])).2.2.1
          refine ⟨hlt, by rw [← conv i h1 hlt]; exact h2, fun j hj => ?_⟩
          rw [← conv j (by omega) (by omega)]
          exact h3 j hj
        refine ⟨.skip, _, ρ, undef, ?_, .inr ⟨rfl, rfl⟩, hr.setMap hg (her.set hee (e' := { e with val := ev x }) (E' := { Es[i] with val := EV x }) q1 q2 q3 hx (Es' := Es.modify i fun e => { e with val := EV x }) (fun j => ?_) (by simp)), .undef⟩
        · simp only [execOp, Instr.entryStore, hM, hs.int_inv, Sem.run_bind, Result.andThen_ok, hgo, asInt, asIntOf, Sem.run_pure, hfind, hso]
        · rw [Array.getElem?_modify]
          by_cases hij : j = i
          · subst hij; simp [hlt]
          · simp [hij, Ne.symm hij]
      · cases he
    · cases he
  case next x str =>
    have hx := hv x (by simp)
    split at he
    · rename_i a ha
      split at he
      · rename_i s p hoff hg
        rw [ha] at hx
        obtain ⟨A, hA, har⟩ := hx.ptr_inv
        obtain ⟨hB, hd, hE⟩ := hr.blk _ _ hg
        obtain ⟨_, _, rfl⟩ := har
        rw [hd, hoff] at hA
        have hgo := getO_run (P := P) hE (by intro _ _ _ h; cases h)
        have hso := fun o => setO_run (P := P) (o := o) hE (by intro _ _ _ h; cases h)
        split at he
        · rename_i hlt
          cases he
          have hlt := blt_iff.1 hlt
          have t3 : ∀ (x y z : Value), scalar x = true → scalar y = true → scalar z = true → VR ρ (lts h.next) (.tuple #[x, y, z]) (.tuple #[x, y, z]) := fun x y z hx hy hz => .tuple rfl (fun i a b ha hb => by
            match i with
            | 0 => simp at ha hb; subst ha; subst hb; exact .scalar hx
            | 1 => simp at ha hb; subst ha; subst hb; exact .scalar hy
            | 2 => simp at ha hb; subst ha; subst hb; exact .scalar hz
            | i + 3 => simp at ha)
          refine ⟨_, setO w (ρ a.block).blk (.stringIter s (p + (Utf8.decode s p).2)), ρ, .tuple #[.bool true, goInt p, .int .i32 (Utf8.decode s p).1], ?_, .inl rfl, ?_, t3 _ _ _ rfl rfl rfl⟩
          · simp only [execOp, hA, Instr.next, Sem.run_bind, hgo, Result.andThen_ok, if_pos hlt, hso, Sem.run_pure]
          · rw [Heap.get_put]
            exact hr.setBlk (own_iff.2 ⟨_, hg, rfl⟩) ⟨hB, hd, setO_same hE⟩ rfl (setO_size _ _ _) (fun k hk => setO_other w _ hk) rfl rfl rfl
        · rename_i hlt
          cases he
          have hlt : ¬ p < s.size := fun h => hlt (blt_iff.2 h)
          refine ⟨_, w, ρ, .tuple #[.bool false], ?_, .inl rfl, Step.refl hr, .tuple rfl (fun i a b ha hb => ?_)⟩
          · simp only [execOp, hA, Instr.next, Sem.run_bind, hgo, Result.andThen_ok, if_neg hlt, Sem.run_pure]
          · match i with
            | 0 => simp at ha hb; subst ha; subst hb; exact .scalar rfl
            | i + 1 => simp at ha
      · cases he
    · cases he
  case call c =>
    obtain ⟨callee, args, argTypes⟩ := c
    cases callee with
    | value f => simp at he
    | invoke r m => simp at he
    | builtin b =>
      have hargs : ∀ x ∈ args, VR ρ (lts h.next) (ev x) (EV x) := fun x hx => hv x (by simp [Call.operands, hx])
      have hall := VRs.map hargs
      have ex : (execOp EV ⟨dst, .call ⟨.builtin b, args, argTypes⟩, type, pos, after, guard⟩).run P w =
          (builtin b argTypes type (args.map fun | .const _ => true | _ => false) (args.map EV)).run P w := rfl
      have arg : ∀ (i : Nat) v0, Option.map ev args[i]? = some v0 → ∃ V0, (args.map EV)[i]? = some V0 ∧ VR ρ (lts h.next) v0 V0 := fun i v0 h0 => by
        have : (args.map ev)[i]? = some v0 := by rw [Array.getElem?_map]; exact h0
        exact hall.get this
      cases b <;> simp only at he <;> (try (cases he; done))
      case append =>
        split at he
        · rename_i s x hs hx
          obtain ⟨S, hS, hSr⟩ := arg 0 (ev s) (by rw [hs]; rfl)
          obtain ⟨X, hX, hXr⟩ := arg 1 (ev x) (by rw [hx]; rfl)
          obtain ⟨V, w', ρ', hrun, hst, hvr⟩ := appendE_sound (P := P) (ty := type) hr hSr hXr hS hX he
          exact ⟨_, w', ρ', V, by rw [ex]; simp only [builtin, Sem.run_bind, hrun]; rfl, .inl rfl, hst, hvr⟩
        · cases he
      case clear =>
        have t0 : VR ρ (lts h.next) (.tuple #[]) (.tuple #[]) := .undef
        split at he
        · rename_i d ht ha
          cases he
          obtain ⟨X, hX, hXr⟩ := arg 0 _ ha
          obtain ⟨t, ht0, hu⟩ := Option.bind_eq_some_iff.1 ht
          exact ⟨_, w, ρ, .tuple #[], by rw [ex]; simp only [builtin, Builtin.clear_, ht0, hX, hXr.scalar_eq rfl]; simp [underlying_run hu], .inl rfl, Step.refl hr, t0⟩
        · rename_i d l c ht ha
          cases he
          obtain ⟨X, hX, hXr⟩ := arg 0 _ ha
          obtain ⟨t, ht0, hu⟩ := Option.bind_eq_some_iff.1 ht
          exact ⟨_, w, ρ, .tuple #[], by rw [ex]; simp only [builtin, Builtin.clear_, ht0, hX, hXr.nilslice.1]; simp [underlying_run hu], .inl rfl, Step.refl hr, t0⟩
        · rename_i d a c ht ha
          cases he
          obtain ⟨X, hX, hXr⟩ := arg 0 _ ha
          obtain ⟨t, ht0, hu⟩ := Option.bind_eq_some_iff.1 ht
          obtain ⟨_, A, c', rfl, _⟩ := hXr.slice_any
          exact ⟨_, w, ρ, .tuple #[], by rw [ex]; simp only [builtin, Builtin.clear_, ht0, hX]; simp [underlying_run hu], .inl rfl, Step.refl hr, t0⟩
        · rename_i k e r ht ha
          split at he
          · rename_i es c hg
            cases he
            obtain ⟨X, hX, hXr⟩ := arg 0 _ ha
            obtain ⟨t, ht0, hu⟩ := Option.bind_eq_some_iff.1 ht
            obtain ⟨rfl, _⟩ := hXr.map_inv
            obtain ⟨hB, Es, hE, her⟩ := hr.blk _ _ hg
            have hgo := getO_run (P := P) hE (by intro _ _ _ h; cases h)
            have hso := fun o => setO_run (P := P) (o := o) hE (by intro _ _ _ h; cases h)
            refine ⟨_, _, ρ, .tuple #[], ?_, .inl rfl, hr.setMap hg (Es' := #[]) (c' := c) ⟨rfl, fun i e E he => by simp at he⟩, t0⟩
            rw [ex]
            simp only [builtin, Builtin.clear_, ht0, hX]
            simp [underlying_run hu, hgo, hso]
          · cases he
        · rename_i e a m c hm0 ht ha
          simp only [Option.bind_eq_some_iff] at he
          obtain ⟨z, hz, he⟩ := he
          split at he
          · rename_i hc
            simp only [Option.map_eq_some_iff] at he
            obtain ⟨h1, hs, heq⟩ := he
            cases heq
            obtain ⟨X, hX, hXr⟩ := arg 0 _ ha
            obtain ⟨t, ht0, hu⟩ := Option.bind_eq_some_iff.1 ht
            obtain ⟨_, A, c', rfl, _, har⟩ := hXr.slice_any
            have hm : 0 < m := Nat.pos_of_ne_zero fun e => by subst e; simp_all
            obtain ⟨w', hrun, hst⟩ := storeH_sound (P := P) hr (har hm) (zeros_rel hc m) hs
            refine ⟨_, w', ρ, .tuple #[], ?_, .inl rfl, hst, .undef⟩
            rw [ex]
            simp only [builtin, Builtin.clear_, ht0, hX]
            have hne : ∀ (y : Nat), m ≠ 0 := fun _ => by omega
            cases m with
            | zero => omega
            | succ m =>
              have hzc : (Builtin.zeroCells z.cells (m + 1)).toList = zerosL z.cells.toList (m + 1) := by rw [← zerosL_zeroCells]
              simp [underlying_run hu, zeroOf_run hz, hzc, hrun]
          · cases he
        · cases he
      case copy =>
        split at he
        · rename_i e base dLen dCap src ht ha0 ha1
          simp only [Option.bind_eq_some_iff] at he
          obtain ⟨size, hsz, m, hm, he⟩ := he
          obtain ⟨D, hD, hDr⟩ := arg 0 _ ha0
          obtain ⟨S, hS, hSr⟩ := arg 1 _ ha1
          obtain ⟨t, ht0, hu⟩ := Option.bind_eq_some_iff.1 ht
          have hlen := srcLen (P := P) src S hSr hm w
          obtain ⟨baseC, capC, rfl, hb⟩ : ∃ baseC capC, D = .slice baseC dLen capC ∧ ((base = none ∧ baseC = none ∧ dLen = 0) ∨ ∃ a A, base = some a ∧ baseC = some A ∧ (0 < dLen → AR ρ (lts h.next) a A)) := by
            cases base with
            | none => obtain ⟨rfl, rfl, rfl⟩ := hDr.nilslice; exact ⟨none, 0, rfl, .inl ⟨rfl, rfl, rfl⟩⟩
            | some a => obtain ⟨_, A, c', rfl, _, har⟩ := hDr.slice_any; exact ⟨some A, c', rfl, .inr ⟨a, A, rfl, rfl, har⟩⟩
          split at he
          · rename_i h0
            cases he
            have h0 := Nat.eq_of_beq_eq_true h0
            obtain ⟨L, hLl, _, hLrun⟩ := srcCells_rel (P := P) (size := size) hr hSr (Nat.zero_le _) hm (l := []) (by simp [srcCells])
            have : L = [] := List.eq_nil_of_length_eq_zero (by omega)
            subst this
            refine ⟨_, w, ρ, goInt 0, ?_, .inl rfl, Step.refl hr, .scalar rfl⟩
            rw [ex]
            simp only [builtin, Builtin.copy_, ht0, hD, hS, Sem.run_bind, underlying_run hu, Result.andThen_ok, hlen, szOf_run hsz, h0, hLrun w rfl]
            cases baseC <;> simp [storeCells]
          · rename_i h0
            have h0 : Nat.min m dLen ≠ 0 := fun e => by rw [e] at h0; simp at h0
            simp only [Option.bind_eq_some_iff, Option.map_eq_some_iff] at he
            obtain ⟨l, hl, a, hba, h1, hs, heq⟩ := he
            cases heq
            have hmin : Nat.min m dLen ≤ m := Nat.min_le_left _ _
            have hmin2 : Nat.min m dLen ≤ dLen := Nat.min_le_right _ _
            obtain ⟨L, hLl, hLr, hLrun⟩ := srcCells_rel (P := P) hr hSr hmin hm hl
            rcases hb with ⟨rfl, _⟩ | ⟨a', A, rfl, rfl, har⟩
            · cases hba
            · cases hba
              obtain ⟨w', hrun, hst⟩ := storeH_sound (P := P) hr (har (by omega)) hLr hs
              refine ⟨_, w', ρ, goInt (Nat.min m dLen), ?_, .inl rfl, hst, .scalar rfl⟩
              rw [ex]
              simp only [builtin, Builtin.copy_, ht0, hD, hS, Sem.run_bind, underlying_run hu, Result.andThen_ok, hlen, szOf_run hsz, hLrun w rfl, hrun, Sem.run_pure]
        · cases he
      case delete =>
        split at he
        · rename_i key e k ht ha0 ha1
          split at he
          · rename_i hb
            cases he
            obtain ⟨M, hM, hMr⟩ := arg 0 _ ha0
            obtain ⟨K, hK, hKr⟩ := arg 1 _ ha1
            obtain ⟨t, ht0, hu⟩ := Option.bind_eq_some_iff.1 ht
            have hck := checkKey_run (P := P) (e := true) (k := K) hb 9999 w
            refine ⟨_, w, ρ, .tuple #[], ?_, .inl rfl, Step.refl hr, .undef⟩
            rw [ex]
            simp only [builtin, Builtin.delete_, ht0, hM, hK, hMr.scalar_eq rfl, Sem.run_bind, underlying_run hu, Result.andThen_ok]
            rw [show (10000 : Nat) = 9999 + 1 from rfl, hck]
            rfl
          · cases he
        · rename_i key e r k ht ha0 ha1
          split at he
          · rename_i hb
            simp only [Bool.and_eq_true] at hb
            split at he
            · rename_i es c kd hg hu'
              simp only [Option.map_eq_some_iff] at he
              obtain ⟨f, hf, heq⟩ := he
              obtain ⟨M, hM, hMr⟩ := arg 0 _ ha0
              obtain ⟨K, hK, hKr⟩ := arg 1 _ ha1
              obtain ⟨t, ht0, hu⟩ := Option.bind_eq_some_iff.1 ht
              have hKe := hKr.scalar_eq hb.2
              subst hKe
              obtain ⟨rfl, _⟩ := hMr.map_inv
              obtain ⟨hB, Es, hE, her⟩ := hr.blk _ _ hg
              have hgo := getO_run (P := P) hE (by intro _ _ _ h; cases h)
              have hso := fun o => setO_run (P := P) (o := o) hE (by intro _ _ _ h; cases h)
              have hck := checkKey_run (P := P) (e := Es.isEmpty) (k := K) hb.1 9999 w
              rcases her.findNow hf with ⟨rfl, hF⟩ | ⟨j, v', V', rfl, hF, hvv, hj⟩
              · cases heq
                have hself : Step B G ρ (lts h.next) h.get w ρ (lts h.next) h.get (setO w (ρ r).blk (.map Es c)) := by
                  have := hr.setMap hg (c' := c) her
                  have e : (h.put r (.map es c)).get = h.get := by
                    rw [Heap.get_put]; funext i; unfold upd; split
                    · rename_i e; subst e; exact hg.symm
                    · rfl
                  rw [e] at this
                  exact this
                refine ⟨_, _, ρ, .tuple #[], ?_, .inl rfl, hself, .undef⟩
                rw [ex]
                simp only [builtin, Builtin.delete_, ht0, hM, hK, Sem.run_bind, underlying_run hu, Result.andThen_ok, hgo]
                rw [show (10000 : Nat) = 9999 + 1 from rfl, hck]
                simp only [Result.andThen_ok, findKey_run hu' hF, hso, Sem.run_pure, Sem.run_bind]
              · cases heq
                have her' : EntriesR ρ (lts h.next) (es.eraseIdx j) (Es.eraseIdxIfInBounds j) := by
                  refine ⟨?_, fun i a A ha hA => ?_⟩
                  · have hj' : j < Es.size := by rw [← her.1]; exact hj
                    simp [List.length_eraseIdx, Array.eraseIdxIfInBounds, her.1, hj']
                  · have hj' : j < Es.size := by rw [← her.1]; exact hj
                    simp only [Array.eraseIdxIfInBounds, hj', dif_pos] at hA
                    rw [List.getElem?_eraseIdx] at ha
                    rw [Array.getElem?_eraseIdx] at hA
                    split at ha
                    · rename_i hij
                      rw [if_pos hij] at hA
                      exact her.2 i a A ha hA
                    · rename_i hij
                      rw [if_neg hij] at hA
                      exact her.2 (i + 1) a A ha hA
                refine ⟨_, _, ρ, .tuple #[], ?_, .inl rfl, hr.setMap hg (c' := c) her', .undef⟩
                rw [ex]
                simp only [builtin, Builtin.delete_, ht0, hM, hK, Sem.run_bind, underlying_run hu, Result.andThen_ok, hgo]
                rw [show (10000 : Nat) = 9999 + 1 from rfl, hck]
                simp only [Result.andThen_ok, findKey_run hu' hF, hso, Sem.run_pure, Sem.run_bind]
            · cases he
          · cases he
        · cases he
end

end Go.Ab
