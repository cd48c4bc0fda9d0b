/- The abstract machine: what the evaluator says holds. -/
import Derived.Test.YtmipibapdgcgnaaAbBody
import Derived.Test.YtmipibapdgcgnaaAbReg
namespace Go.Ab
open Go

/-! ### Sameness -/
theorem all2_spec {α : Type} {f : α → α → Bool} (hf : ∀ a b, f a b = true → a = b) : ∀ (l m : List α), all2 f l m = true → l = m
  | [], [], _ => rfl
  | [], _ :: _, h => by cases h
  | _ :: _, [], h => by cases h
  | x :: xs, y :: ys, h => by
    simp only [all2, Bool.and_eq_true] at h
    rw [hf _ _ h.1, all2_spec hf xs ys h.2]

theorem toList_eq {α : Type} {a b : Array α} (h : a.toList = b.toList) : a = b := Array.ext' h

theorem veq0_spec {a b : Value} (h : veq0 a b = true) : a = b := by
  unfold veq0 at h
  split at h <;> try simp only [Bool.and_eq_true, decide_eq_true_eq, beq_iff_eq] at h
  case h_4 s t =>
    have : s.data = t.data := toList_eq h
    cases s; cases t; simp only at this; rw [this]
  all_goals first | (cases h; done) | (obtain ⟨⟨rfl, h2⟩, h3⟩ := h; rw [Nat.eq_of_beq_eq_true h2, Nat.eq_of_beq_eq_true h3]) | (obtain ⟨rfl, h2⟩ := h; first | rw [Nat.eq_of_beq_eq_true h2] | rw [h2]) | (subst h; rfl) | rfl

theorem veqN_spec : ∀ {n : Nat} {a b : Value}, veqN n a b = true → a = b
  | 0, _, _, h => veq0_spec h
  | n + 1, a, b, h => by
    have ih : ∀ a b, veqN n a b = true → a = b := fun _ _ => veqN_spec
    unfold veqN at h
    split at h <;> try simp only [Bool.and_eq_true] at h
    · obtain ⟨⟨h1, h2⟩, h3⟩ := h
      rw [Nat.eq_of_beq_eq_true h1, toList_eq (all2_spec ih _ _ h2), toList_eq (all2_spec ih _ _ h3)]
    · obtain ⟨h1, h2⟩ := h
      rw [Nat.eq_of_beq_eq_true h1, ih _ _ h2]
    · rw [toList_eq (all2_spec ih _ _ h)]
    · rw [toList_eq (all2_spec ih _ _ h)]
    · exact veq0_spec h

/-! ### What is asked -/
structure EnvOk (E : Env) (G : Nat) : Prop where
  ext : ∀ (k : FuncId) (args : List Value) (v : Value), E.ext k args = some v → ∀ (ρ : Ren) (n : Scope) (Args : Array Value) (w : World), VRs ρ n args.toArray Args → ∃ V, (callFunc k Args).run E.P w = .ok (.value V) w ∧ VR ρ n v V
  extA : ∀ (k : FuncId) (args : List Value) (b : Blk) (f : Nat → Value), E.extA k args = some (b, f) → ∀ (B : Nat) (ρ : Ren) (n : Scope) (Args : Array Value) (w : World), B ≤ w.heap.size → VRs ρ n args.toArray Args →
    ∃ V w', (callFunc k Args).run E.P w = .ok (.value V) w' ∧ Makes B ρ n w b f V w'
  mixed : E.P.follows .mixedOrders = true
  text : ∀ (k : FuncId) (fn : Func) (c : Code), E.P.funcs[k]? = some fn → fn.body = some c → (fn.name == "runtime.NumGoroutine") = false ∧ wfCode G fn.ntmps c = true ∧
    ∀ id ops, (id, ops) ∈ drawsOf c → ∀ g, E.reg k id = some g → regOkB E.P ops g = true

section
variable {E : Env} {G : Nat} {call : CallF}

def CallSound (E : Env) (G : Nat) (call : CallF) : Prop := ∀ k args h v h', doCall E call k args h = some (v, h') → CallT E.P G k args h fun v1 h1 => v1 = v ∧ h1 = h'

theorem runOp_sound (hc : CallSound E G call) {o : Oper} {fr fr' : Fr} {h h' : Heap} (hr : runOp E call o fr h = some (fr', h')) : OpT E.P G o (fun fr1 h1 => fr1 = fr' ∧ h1 = h') fr h := by
  unfold runOp at hr
  unfold OpT
  split at hr
  · simp only [Option.map_eq_some_iff] at hr; obtain ⟨v, h1, h2⟩ := hr; cases h2; simp [*]
  · simp only [Option.map_eq_some_iff] at hr; obtain ⟨v, h1, h2⟩ := hr; cases h2; simp [*]
  · simp only [Option.map_eq_some_iff] at hr; obtain ⟨v, h1, h2⟩ := hr; cases h2; simp only [*]; exact ⟨v.1, v.2, rfl, rfl, rfl⟩
  · simp only [Option.map_eq_some_iff] at hr; obtain ⟨v, h1, h2⟩ := hr; cases h2; simp only [*]; exact ⟨v.1, v.2, rfl, rfl, rfl⟩
  · simp only [Option.bind_eq_some_iff, Option.map_eq_some_iff] at hr
    obtain ⟨c, h1, v, h2, h3⟩ := hr
    cases h3
    simp only [*]
    exact ⟨c.1, c.2, rfl, (hc _ _ _ _ _ h2).mono fun _ _ ⟨a, b⟩ => ⟨by rw [a], b⟩⟩
  · simp only [Option.map_eq_some_iff] at hr; obtain ⟨v, h1, h2⟩ := hr; cases h2; simp [*]
  · cases hr

theorem runOps_sound (hc : CallSound E G call) {ops : Array Oper} : ∀ {l : List Oper} {fr fr' : Fr} {h h' : Heap}, runOps E call ops l fr h = some (fr', h') → OpsT E.P G ops (fun fr1 h1 => fr1 = fr' ∧ h1 = h') l fr h
  | [], fr, fr', h, h', hr => by cases hr; exact ⟨rfl, rfl⟩
  | o :: rest, fr, fr', h, h', hr => by
    simp only [runOps] at hr
    split at hr
    · rename_i hw
      simp only [Option.bind_eq_some_iff] at hr
      obtain ⟨⟨fr1, h1⟩, h2, h3⟩ := hr
      exact .inl ⟨hw, (runOp_sound hc h2).mono fun a b ⟨ha, hb⟩ => by subst ha; subst hb; exact runOps_sound hc h3⟩
    · rename_i hw
      exact .inr ⟨hw, runOps_sound hc hr⟩
    · cases hr

/-- What an operation of a region that draws answers. -/
theorem runOp_A (hc : CallSound E G call) {o : Oper} {fr fr' : Fr} {h h' : Heap} (hk : clsOk (clsOf E.P o) = true) (hr : runOp E call o fr h = some (fr', h')) : ∃ v, fr' = fr.put o.dst v ∧ OpA E.P G o fr h v h' := by
  unfold runOp at hr
  unfold OpA
  split at hr
  · simp only [Option.map_eq_some_iff] at hr; obtain ⟨v, h1, h2⟩ := hr; cases h2; simp [*]
  · simp only [Option.map_eq_some_iff] at hr; obtain ⟨v, h1, h2⟩ := hr; cases h2; simp [*]
  · simp only [Option.map_eq_some_iff] at hr; obtain ⟨v, h1, h2⟩ := hr; cases h2; simp only [*]; exact ⟨_, rfl, v.1, v.2, rfl, rfl, rfl⟩
  · simp only [Option.map_eq_some_iff] at hr; obtain ⟨v, h1, h2⟩ := hr; cases h2; simp only [*]; exact ⟨v.1, rfl, rfl⟩
  · simp only [Option.bind_eq_some_iff, Option.map_eq_some_iff] at hr
    obtain ⟨c, h1, v, h2, h3⟩ := hr
    cases h3
    simp only [*]
    exact ⟨v.1, rfl, c.1, c.2, rfl, hc _ _ _ _ _ h2⟩
  · rename_i hd; rw [hd] at hk; cases hk
  · cases hr

/-- A run in one order, step by step. -/
theorem draw_trace (hc : CallSound E G call) {ops : Array Oper} {M : List Nat} (hk : ∀ o ∈ ops, clsOk (clsOf E.P o) = true) : ∀ (order : List Nat) (pend : List Pend) (fr fr' : Fr) (h h' : Heap), runDraw E call ops M order pend fr h = some (fr', h') →
    ∃ (oo : Nat → Oper) (frs : Nat → Fr) (hs : Nat → Heap) (ws : Nat → Bool) (vs : Nat → Value), frs 0 = fr ∧ hs 0 = h ∧ frs order.length = fr' ∧ hs order.length = h' ∧
      (∀ p i, order[p]? = some i → ops[i]? = some (oo p) ∧ wantedA ops (frs p) (oo p) = some (ws p) ∧ frs (p + 1) = (frs p).put (oo p).dst (vs p) ∧
        (ws p = true → OpA E.P G (oo p) (frs p) (hs p) (vs p) (hs (p + 1))) ∧ (ws p = false → vs p = undef ∧ hs (p + 1) = hs p)) ∧
      (∀ x ∈ pend, ∀ q j, order[q]? = some j → isE (clsOf E.P (oo q)) = true → ws q = true → bf M x.ix j = false → rOp E.P x.fr.ev (hs (q + 1)).get x.o = some x.v) ∧
      (∀ p q i j, p < q → order[p]? = some i → order[q]? = some j → isR (clsOf E.P (oo p)) = true → isE (clsOf E.P (oo q)) = true → ws p = true → ws q = true → bf M i j = false → rOp E.P (frs p).ev (hs (q + 1)).get (oo p) = some (vs p))
  | [], pend, fr, fr', h, h', hr => by
    cases hr
    exact ⟨fun _ => default, fun _ => fr, fun _ => h, fun _ => false, fun _ => undef, rfl, rfl, rfl, rfl, fun p i hi => by simp at hi, fun _ _ q j hj => by simp at hj, fun p q i j _ hi => by simp at hi⟩
  | i :: rest, pend, fr, fr', h, h', hr => by
    simp only [runDraw] at hr
    split at hr
    · cases hr
    · rename_i o ho
      have hko := hk o (Array.mem_of_getElem? ho)
      -- how the rest goes on
      have key : ∀ (pend' : List Pend) (fr1 : Fr) (h1 : Heap) (v : Value) (w : Bool), fr1 = fr.put o.dst v → wantedA ops fr o = some w → (w = true → OpA E.P G o fr h v h1) → (w = false → v = undef ∧ h1 = h) →
          runDraw E call ops M rest pend' fr1 h1 = some (fr', h') → (∀ x ∈ pend, x ∈ pend') → (isR (clsOf E.P o) = true → w = true → (⟨i, o, fr, v⟩ : Pend) ∈ pend') →
          (isE (clsOf E.P o) = true → w = true → ∀ x ∈ pend, bf M x.ix i = false → rOp E.P x.fr.ev h1.get x.o = some x.v) →
          ∃ (oo : Nat → Oper) (frs : Nat → Fr) (hs : Nat → Heap) (ws : Nat → Bool) (vs : Nat → Value), frs 0 = fr ∧ hs 0 = h ∧ frs (i :: rest).length = fr' ∧ hs (i :: rest).length = h' ∧
            (∀ p j, (i :: rest)[p]? = some j → ops[j]? = some (oo p) ∧ wantedA ops (frs p) (oo p) = some (ws p) ∧ frs (p + 1) = (frs p).put (oo p).dst (vs p) ∧
              (ws p = true → OpA E.P G (oo p) (frs p) (hs p) (vs p) (hs (p + 1))) ∧ (ws p = false → vs p = undef ∧ hs (p + 1) = hs p)) ∧
            (∀ x ∈ pend, ∀ q j, (i :: rest)[q]? = some j → isE (clsOf E.P (oo q)) = true → ws q = true → bf M x.ix j = false → rOp E.P x.fr.ev (hs (q + 1)).get x.o = some x.v) ∧
            (∀ p q a j, p < q → (i :: rest)[p]? = some a → (i :: rest)[q]? = some j → isR (clsOf E.P (oo p)) = true → isE (clsOf E.P (oo q)) = true → ws p = true → ws q = true → bf M a j = false → rOp E.P (frs p).ev (hs (q + 1)).get (oo p) = some (vs p)) := by
        intro pend' fr1 h1 v w hfr hw ht hf hrun hsub hmem hpend
        obtain ⟨oo, frs, hs, ws, vs, r1, r2, r3, r4, r5, r6, r7⟩ := draw_trace hc hk rest pend' fr1 fr' h1 h' hrun
        refine ⟨fun p => match p with | 0 => o | p + 1 => oo p, fun p => match p with | 0 => fr | p + 1 => frs p, fun p => match p with | 0 => h | p + 1 => hs p, fun p => match p with | 0 => w | p + 1 => ws p, fun p => match p with | 0 => v | p + 1 => vs p,
          rfl, rfl, r3, r4, ?_, ?_, ?_⟩
        · intro p j hj
          cases p with
          | zero =>
            have : i = j := by simpa using hj
            subst this
            exact ⟨ho, hw, r1.trans hfr, fun hwt => by simp only [r2]; exact ht hwt, fun hwf => by simp only [r2]; exact hf hwf⟩
          | succ p => exact r5 p j (by simpa using hj)
        · intro x hx q j hj he hwq hb
          cases q with
          | zero =>
            have : i = j := by simpa using hj
            subst this
            simp only [r2]
            exact hpend he hwq x hx hb
          | succ q => exact r6 x (hsub x hx) q j (by simpa using hj) he hwq hb
        · intro p q a j hpq ha hj hR hE hwp hwq hb
          cases q with
          | zero => omega
          | succ q =>
            cases p with
            | zero =>
              have : i = a := by simpa using ha
              subst this
              exact r6 _ (hmem hR hwp) q j (by simpa using hj) hE hwq hb
            | succ p => exact r7 p q a j (by omega) (by simpa using ha) (by simpa using hj) hR hE hwp hwq hb
      split at hr
      · cases hr
      · rename_i hw
        exact key pend _ h undef false rfl hw (fun h => by cases h) (fun _ => ⟨rfl, rfl⟩) hr (fun _ h => h) (fun _ h => by cases h) (fun _ h => by cases h)
      · rename_i hw
        simp only [Option.bind_eq_some_iff] at hr
        obtain ⟨⟨fr1, h1⟩, hop, hr⟩ := hr
        obtain ⟨v, hfr, hA⟩ := runOp_A hc hko hop
        simp only at hr
        split at hr
        · rename_i hcl
          simp only [Option.bind_eq_some_iff] at hr
          obtain ⟨v', hv', hr⟩ := hr
          have hA' := hA
          unfold OpA at hA'
          rw [hcl] at hA'
          have : v' = v := by have := hA'.1; rw [hv'] at this; exact Option.some.inj this
          subst this
          exact key _ fr1 h1 v' true hfr hw (fun _ => hA) (fun h => by cases h) hr (fun x hx => .tail _ hx) (fun _ _ => .head _) (fun he => by rw [hcl] at he; cases he)
        · rename_i hnr
          split at hr
          · split at hr
            · rename_i hp
              refine key pend fr1 h1 v true hfr hw (fun _ => hA) (fun h => by cases h) hr (fun _ h => h) (fun hR => ?_) (fun _ _ x hx hb => ?_)
              · exfalso; apply hnr; revert hR; cases clsOf E.P o <;> simp [isR]
              · simp only [pendOk, List.all_eq_true, Bool.or_eq_true] at hp
                rcases hp x hx with h | h
                · unfold bf at hb; rw [hb] at h; cases h
                · split at h
                  · rename_i v2 hv2
                    rw [hv2, veqN_spec h]
                  · cases h
            · cases hr
          · rename_i hne
            refine key pend fr1 h1 v true hfr hw (fun _ => hA) (fun h => by cases h) hr (fun _ h => h) (fun hR => ?_) (fun he => ?_)
            · exfalso; apply hnr; revert hR; cases clsOf E.P o <;> simp [isR]
            · exfalso; apply hne; revert he; cases clsOf E.P o <;> simp [isE, isEff]

theorem all_get {α : Type} {l : List α} {f : α → Bool} (h : l.all f = true) {x : α} (hx : x ∈ l) : f x = true := List.all_eq_true.1 h x hx

theorem runDraw_sound (hE : EnvOk E G) (hc : CallSound E G call) {ops : Array Oper} {g : Reg} {N id : Nat} {fr fr' : Fr} {h h' : Heap} (hg : regOkB E.P ops g = true) (hwf : ops.toList.all (wfOper G N) = true)
    (hr : runDraw E call ops g.before g.order [] fr h = some (fr', h')) : T E.P G N (.region id ops true) (fun x fr1 h1 => x = .normal ∧ fr1 = fr' ∧ h1 = h') fr h := by
  intro hN
  simp only [regOkB, Bool.and_eq_true] at hg
  obtain ⟨⟨⟨⟨⟨⟨g1, g2⟩, g3⟩, g4⟩, g5⟩, g6⟩, g7⟩ := hg
  have hlen : g.order.length = ops.size := Nat.eq_of_beq_eq_true g1
  have hnd := noDup_spec g2
  have hk : ∀ o ∈ ops, clsOk (clsOf E.P o) = true := fun o ho => by
    have := all_get g7 (Array.mem_toList_iff.2 ho)
    simp only [Bool.and_eq_true] at this
    exact this.1
  obtain ⟨oo, frs, hs, ws, vs, r1, r2, r3, r4, r5, _, r7⟩ := draw_trace hc hk g.order [] fr fr' h h' hr
  have hget : ∀ p, p < ops.size → g.order[p]? = some (g.order.getD p 0) := fun p hp => by
    have : p < g.order.length := by omega
    simp [this]
  have hlt : ∀ p, p < ops.size → g.order.getD p 0 < ops.size := fun p hp => by
    have := all_get g3 (List.mem_of_getElem? (hget p hp))
    exact blt_iff.1 this
  let C : Ctx E.P G N ops g.before :=
    { ix := fun p => g.order.getD p 0, oo := oo, frs := frs, hs := hs, ws := ws, vs := vs
      lt := hlt
      inj := fun p q hp hq he => by
        have h1 := hget p hp
        have h2 := hget q hq
        rw [he, ← h2] at h1
        exact (List.getElem?_inj (i := p) (j := q) (by omega) hnd).1 h1
      surj := fun i hi => by
        have := all_get g4 (List.mem_range.2 hi)
        have hm : i ∈ g.order := by simpa using this
        obtain ⟨p, hp, he⟩ := List.getElem_of_mem hm
        exact ⟨p, by omega, by simp [hp, he]⟩
      hoo := fun p hp => (r5 p _ (hget p hp)).1
      pair := fun p q hpq hq => by
        have := pairsOk_spec g5 p q _ _ hpq (hget p (by omega)) (hget q hq)
        simp only [pairOk, Bool.and_eq_true, Bool.not_eq_true', Bool.or_eq_true] at this
        obtain ⟨h1, h2⟩ := this
        refine ⟨h1, h2.imp (fun h => h) fun h2 => ?_⟩
        rw [(r5 p _ (hget p (by omega))).1, (r5 q _ (hget q hq)).1] at h2
        simp only [Bool.and_eq_true, Bool.not_eq_true', Bool.and_eq_false_iff] at h2
        obtain ⟨⟨⟨⟨a1, a2⟩, a3⟩, a4⟩, a5⟩ := h2
        refine ⟨a1, ?_, ?_, ?_, ?_⟩
        · rintro ⟨b1, b2⟩; simp [b1, b2] at a2
        · rintro ⟨b1, b2⟩; simp [b1, b2] at a3
        · rintro ⟨b1, b2⟩; simp [b1, b2] at a4
        · rintro ⟨b1, b2⟩; simp [b1, b2] at a5
      irr := fun q hq => by
        have := all_get g6 (List.mem_range.2 (hlt q hq))
        simp only [maskOk, (r5 q _ (hget q hq)).1, Bool.and_eq_true, Bool.not_eq_true'] at this
        exact this.1.1
      mask := fun q hq => by
        have := all_get g6 (List.mem_range.2 (hlt q hq))
        simp only [maskOk, (r5 q _ (hget q hq)).1, Bool.and_eq_true, Bool.not_eq_true'] at this
        obtain ⟨⟨_, h2⟩, h3⟩ := this
        refine ⟨fun e he hb => ?_, fun i hi hb => ?_⟩
        · have := all_get h2 (Array.mem_toList_iff.2 he)
          simp only [hb, Bool.not_true, Bool.false_or, Bool.and_eq_true] at this
          exact ⟨this.1, blt_iff.1 this.2⟩
        · have := all_get h3 (List.mem_range.2 hi)
          rw [hb] at this
          simp only [Bool.not_true, Bool.false_or, List.any_eq_true, Bool.and_eq_true, Bool.or_eq_true] at this
          obtain ⟨e, he, h4, h5⟩ := this
          exact ⟨e, Array.mem_toList_iff.1 he, h4, h5.imp Nat.eq_of_beq_eq_true fun h => h⟩
      wf := fun p hp => all_get hwf (Array.mem_toList_iff.2 (Array.mem_of_getElem? (r5 p _ (hget p hp)).1))
      n0 := by rw [r1]; exact hN
      want := fun p hp => (r5 p _ (hget p hp)).2.1
      fr1 := fun p hp => (r5 p _ (hget p hp)).2.2.1
      yes := fun p hp => (r5 p _ (hget p hp)).2.2.2.1
      no := fun p hp => (r5 p _ (hget p hp)).2.2.2.2
      pend := fun p q hpq hq a1 a2 a3 a4 a5 => r7 p q _ _ hpq (hget p (by omega)) (hget q hq) a1 a2 a3 a4 a5 }
  exact T.draw hE.mixed C r1 r2 ⟨rfl, by rw [← r3, hlen], by rw [← r4, hlen]⟩ hN

theorem runLoop_sound {P : Program} {N : Nat} {c : Code} {f : Fr → Heap → Option (Ex × Fr × Heap)} (hf : ∀ fr h x fr' h', f fr h = some (x, fr', h') → T P G N c (fun x1 fr1 h1 => x1 = x ∧ fr1 = fr' ∧ h1 = h') fr h) :
    ∀ (L : Nat) (fr : Fr) (h : Heap) (x : Ex) (fr' : Fr) (h' : Heap), runLoop L f fr h = some (x, fr', h') → LoopT P G N c (fun x1 fr1 h1 => x1 = x ∧ fr1 = fr' ∧ h1 = h') L fr h
  | 0, _, _, _, _, _, h0 => by cases h0
  | L + 1, fr, h, x, fr', h', h0 => by
    simp only [runLoop, Option.bind_eq_some_iff] at h0
    obtain ⟨⟨y, fr1, h1⟩, h2, h3⟩ := h0
    refine (hf _ _ _ _ _ h2).mono fun x1 fr2 h4 ⟨e1, e2, e3⟩ => ?_
    subst e1; subst e2; subst e3
    cases x1 with
    | normal => exact runLoop_sound hf L _ _ _ _ _ h3
    | exit id => cases h3; exact ⟨rfl, rfl, rfl⟩
    | ret => cases h3; exact ⟨rfl, rfl, rfl⟩

theorem runCode_sound (hE : EnvOk E G) (hc : CallSound E G call) {L N : Nat} {k : FuncId} : ∀ (c : Code) (fr : Fr) (h : Heap) (x : Ex) (fr' : Fr) (h' : Heap), runCode E call L k c fr h = some (x, fr', h') → wfCode G N c = true →
    (∀ id ops, (id, ops) ∈ drawsOf c → ∀ g, E.reg k id = some g → regOkB E.P ops g = true) → T E.P G N c (fun x1 fr1 h1 => x1 = x ∧ fr1 = fr' ∧ h1 = h') fr h := by
  intro c
  induction c with
  | skip => intro fr h x fr' h' h0 _ _; cases h0; exact T.skip ⟨rfl, rfl, rfl⟩
  | region id ops draw =>
    intro fr h x fr' h' h0 hwf hd
    simp only [runCode] at h0
    split at h0
    · rename_i hdr
      subst hdr
      simp only [Option.bind_eq_some_iff, Option.map_eq_some_iff] at h0
      obtain ⟨g, hg, ⟨fr1, h1⟩, h2, h3⟩ := h0
      cases h3
      exact (runDraw_sound hE hc (hd id ops (by simp [drawsOf]) g hg) hwf h2).mono fun x f h ⟨a, b, c⟩ => ⟨a, b, c⟩
    · rename_i hdr
      have : draw = false := by simpa using hdr
      subst this
      simp only [Option.map_eq_some_iff] at h0
      obtain ⟨⟨fr1, h1⟩, h2, h3⟩ := h0
      cases h3
      refine T.region hwf ?_
      have := runOps_sound hc h2
      simpa using this
  | seq a b iha ihb =>
    intro fr h x fr' h' h0 hwf hd
    simp only [runCode, Option.bind_eq_some_iff] at h0
    obtain ⟨⟨y, fr1, h1⟩, h2, h3⟩ := h0
    simp only [wfCode, Bool.and_eq_true] at hwf
    refine T.seq ((iha _ _ _ _ _ h2 hwf.1 fun id ops hm => hd id ops (by simp [drawsOf, hm])).mono fun x1 fr2 h4 ⟨e1, e2, e3⟩ => ?_)
    subst e1; subst e2; subst e3
    cases x1 with
    | normal => exact ihb _ _ _ _ _ h3 hwf.2 fun id ops hm => hd id ops (by simp [drawsOf, hm])
    | exit id => cases h3; exact ⟨rfl, rfl, rfl⟩
    | ret => cases h3; exact ⟨rfl, rfl, rfl⟩
  | cond o a b iha ihb =>
    intro fr h x fr' h' h0 hwf hd
    simp only [wfCode, Bool.and_eq_true] at hwf
    simp only [runCode] at h0
    split at h0
    · rename_i hv; exact T.cond hwf.1.1 hv (iha _ _ _ _ _ h0 hwf.1.2 fun id ops hm => hd id ops (by simp [drawsOf, hm]))
    · rename_i hv; exact T.cond hwf.1.1 hv (ihb _ _ _ _ _ h0 hwf.2 fun id ops hm => hd id ops (by simp [drawsOf, hm]))
    · cases h0
  | block id c ih =>
    intro fr h x fr' h' h0 hwf hd
    simp only [runCode, Option.map_eq_some_iff] at h0
    obtain ⟨⟨y, fr1, h1⟩, h2, h3⟩ := h0
    refine T.block ((ih _ _ _ _ _ h2 hwf hd).mono fun x1 fr2 h4 ⟨e1, e2, e3⟩ => ?_)
    subst e1; subst e2; subst e3
    cases x1 with
    | normal => cases h3; exact ⟨rfl, rfl, rfl⟩
    | exit j =>
      simp only at h3 ⊢
      by_cases hj : j = id
      · subst hj
        simp at h3
        obtain ⟨rfl, rfl, rfl⟩ := h3
        rw [if_pos rfl]; exact ⟨rfl, rfl, rfl⟩
      · have : Nat.beq j id = false := by
          cases hb : Nat.beq j id with
          | false => rfl
          | true => exact absurd (Nat.eq_of_beq_eq_true hb) hj
        rw [this] at h3
        simp at h3
        obtain ⟨rfl, rfl, rfl⟩ := h3
        rw [if_neg hj]; exact ⟨rfl, rfl, rfl⟩
    | ret => cases h3; exact ⟨rfl, rfl, rfl⟩
  | loop c ih =>
    intro fr h x fr' h' h0 hwf hd
    exact T.loop L (runLoop_sound (fun fr h x fr' h' h1 => ih _ _ _ _ _ h1 hwf hd) L fr h x fr' h' h0)
  | exit id => intro fr h x fr' h' h0 _ _; cases h0; exact T.exit ⟨rfl, rfl, rfl⟩
  | ret => intro fr h x fr' h' h0 _ _; cases h0; exact T.ret ⟨rfl, rfl, rfl⟩
  | scope c ih => intro fr h x fr' h' h0 hwf hd; exact T.scope (ih _ _ _ _ _ h0 hwf hd)
  | label l => intro fr h x fr' h' h0 _ _; cases h0; exact T.label ⟨rfl, rfl, rfl⟩
  | _ => intros; rename_i h0 _ _; simp [runCode] at h0

theorem runBody_T (hE : EnvOk E G) (hc : CallSound E G call) {L : Nat} {k : FuncId} {args : List Value} {h h' : Heap} {fn : Func} {fr : Fr} (h0 : runBody E call L k args h = some (fn, fr, h')) :
    ∃ c, E.P.funcs[k]? = some fn ∧ fn.body = some c ∧ (fn.name == "runtime.NumGoroutine") = false ∧ args.length ≤ fn.ntmps ∧ T E.P G fn.ntmps c (fun x fr1 h1 => (x = .normal ∨ x = .ret) ∧ fr1 = fr ∧ h1 = h') (frame0 fn.ntmps args) h := by
  simp only [runBody, Option.bind_eq_some_iff] at h0
  obtain ⟨fn', h1, c, h2, h3⟩ := h0
  split at h3
  · rename_i hlen
    simp only [Option.bind_eq_some_iff] at h3
    obtain ⟨⟨x, fr1, h1'⟩, h4, h5⟩ := h3
    obtain ⟨t1, t2, t3⟩ := hE.text k fn' c h1 h2
    have hT := runCode_sound hE hc c _ _ _ _ _ h4 t2 t3
    cases x with
    | exit id => cases h5
    | normal => cases h5; exact ⟨c, h1, h2, t1, Nat.le_of_ble_eq_true hlen, hT.mono fun _ _ _ ⟨a, b, c⟩ => ⟨.inl a, b, c⟩⟩
    | ret => cases h5; exact ⟨c, h1, h2, t1, Nat.le_of_ble_eq_true hlen, hT.mono fun _ _ _ ⟨a, b, c⟩ => ⟨.inr a, b, c⟩⟩
  · cases h3

theorem runDefers_sound (hE : EnvOk E G) (hc : CallSound E G call) {L : Nat} : ∀ (ds : List Deferred) (h h' : Heap), runDefers E call L ds h = some h' → ∀ {K : Heap → Prop}, K h' → DefersT E.P G K ds h
  | [], h, h', h0, K, hK => by cases h0; exact hK
  | d :: ds, h, h', h0, K, hK => by
    simp only [runDefers] at h0
    split at h0
    · rename_i k cap ht
      simp only [Option.bind_eq_some_iff] at h0
      obtain ⟨⟨fn, fr, h1⟩, h2, h3⟩ := h0
      obtain ⟨c, a1, a2, a3, a4, a5⟩ := runBody_T hE hc h2
      simp only at h3
      split at h3
      · rename_i hdf
        simp only [Option.bind_eq_some_iff] at h3
        obtain ⟨l, hl, h4⟩ := h3
        refine ⟨k, cap, fn, c, ht, a1, a2, a3, by simpa using a4, a5.mono fun x fr2 h5 ⟨b1, b2, b3⟩ => ?_⟩
        subst b2; subst b3
        exact ⟨b1, hdf, ⟨l, hl⟩, runDefers_sound hE hc ds _ _ h4 hK⟩
      · cases h3
    · cases h0

theorem doCall_sound (hE : EnvOk E G) (hc : ∀ k args h v h', call k args h = some (v, h') → CallT E.P G k args h fun v1 h1 => v1 = v ∧ h1 = h') : CallSound E G call := by
  intro k args h v h' h0
  unfold doCall at h0
  split at h0
  · rename_i v' hv
    cases h0
    intro B ρ w Args hargs hr
    obtain ⟨V, h1, h2⟩ := hE.ext k args _ hv ρ (lts h.next) Args w hargs
    exact .inl ⟨V, w, ρ, _, h, h1, Step.refl hr, h2, rfl, rfl⟩
  · split at h0
    · rename_i b f hb
      cases h0
      intro B ρ w Args hargs hr
      obtain ⟨V, w', h1, h2⟩ := hE.extA k args b f hb B ρ (lts h.next) Args w hr.base hargs
      obtain ⟨ρ', h5, h6⟩ := h2.step hr
      rw [← Heap.get_alloc] at h5
      exact .inl ⟨V, w', ρ', f h.next, h.alloc b, h1, h5, h6, rfl, rfl⟩
    · exact hc k args h v h' h0

/-- **What the evaluator says of a function holds.** -/
theorem runFn_sound (hE : EnvOk E G) {L : Nat} : ∀ (d : Nat) (k : FuncId) (args : List Value) (h : Heap) (v : Value) (h' : Heap), runFn E L d k args h = some (v, h') →
    (CallQ E.P G k args h fun v1 h1 => v1 = v ∧ h1 = h') ∧ CallT E.P G k args h fun v1 h1 => v1 = v ∧ h1 = h'
  | 0, k, args, h, v, h', h0 => by cases h0
  | d + 1, k, args, h, v, h', h0 => by
    have hc : CallSound E G (runFn E L d) := doCall_sound hE fun k args h v h' h0 => (runFn_sound hE d k args h v h' h0).2
    simp only [runFn, Option.bind_eq_some_iff, Option.map_eq_some_iff] at h0
    obtain ⟨⟨fn, fr, h1⟩, h2, h3, h4, l, h5, h6⟩ := h0
    cases h6
    obtain ⟨c, a1, a2, a3, a4, a5⟩ := runBody_T hE hc h2
    have : CallQ E.P G k args h fun v1 h1 => v1 = tupled l ∧ h1 = h' := by
      refine CallQ.of_body a1 a2 a4 (a5.mono fun x fr2 h7 ⟨b1, b2, b3⟩ => ?_)
      subst b2; subst b3
      exact ⟨b1, runDefers_sound hE hc _ _ _ h4 ⟨l, h5, rfl, rfl⟩⟩
    exact ⟨this, CallT.of_callQ a1 a2 a3 this⟩

end
end Go.Ab

namespace Go.Ab
open Go

/-- What is asked of a program's text, by program. -/
def envTextB (E : Env) (G : Nat) : Bool :=
  E.P.funcs.toList.zipIdx.all fun x => match x.1.body with
    | none => true
    | some c => !(x.1.name == "runtime.NumGoroutine") && wfCode G x.1.ntmps c && (drawsOf c).all fun y => match E.reg x.2 y.1 with
      | none => true
      | some g => regOkB E.P y.2 g

theorem envTextB_spec {E : Env} {G : Nat} (h : envTextB E G = true) (k : FuncId) (fn : Func) (c : Code) (hf : E.P.funcs[k]? = some fn) (hb : fn.body = some c) : (fn.name == "runtime.NumGoroutine") = false ∧ wfCode G fn.ntmps c = true ∧
    ∀ id ops, (id, ops) ∈ drawsOf c → ∀ g, E.reg k id = some g → regOkB E.P ops g = true := by
  have hm : (fn, k) ∈ E.P.funcs.toList.zipIdx := by
    refine List.mem_iff_getElem?.2 ⟨k, ?_⟩
    rw [List.getElem?_zipIdx]
    simp [hf]
  have := all_get h hm
  simp only [hb, Bool.and_eq_true, Bool.not_eq_true'] at this
  obtain ⟨⟨h1, h2⟩, h3⟩ := this
  refine ⟨h1, h2, fun id ops hd g hg => ?_⟩
  have := all_get h3 hd
  simp only [hg] at this
  exact this

end Go.Ab
