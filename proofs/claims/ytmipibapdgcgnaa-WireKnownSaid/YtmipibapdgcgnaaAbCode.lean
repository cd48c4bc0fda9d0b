/- The abstract machine: a text, run. -/
import Derived.Test.YtmipibapdgcgnaaAbEo
import Derived.LoopN
import Derived.Scope
namespace Go.Ab
open Go

section
variable {P : Program} {ρ ρ' : Ren} {n n' : Scope} {B G : Nat} {get : Get} {w w' : World}

/-! ### Frames -/
theorem Fr.get_set_same (fr : Fr) (d : Nat) (v : Value) : (fr.set d v).get d = v := by simp [Fr.get, Fr.set, Tree.get_put_same]
theorem Fr.get_set_ne (fr : Fr) {d t : Nat} (v : Value) (h : d ≠ t) : (fr.set d v).get t = fr.get t := by simp [Fr.get, Fr.set, Tree.get_put_ne _ _ h]

theorem DefR.mono {d D : Deferred} (h : DefR ρ n d D) (hρ : ∀ i, n i → ρ' i = ρ i) (hn : ∀ i, n i → n' i) : DefR ρ' n' d D := by
  obtain ⟨k, cap, Cap, h1, h2, h3, h4, h5, h6⟩ := h
  exact ⟨k, cap, Cap, h1, h2, h3, fun i x y hx hy => (h4 i x y hx hy).mono hρ hn, h5, fun i x y hx hy => (h6 i x y hx hy).mono hρ hn⟩

theorem DefsR.mono {ds Ds : List Deferred} (h : DefsR ρ n ds Ds) (hρ : ∀ i, n i → ρ' i = ρ i) (hn : ∀ i, n i → n' i) : DefsR ρ' n' ds Ds := by
  induction h with
  | nil => exact .nil
  | cons hd _ ih => exact .cons (hd.mono hρ hn) ih

theorem FR.mono {fr : Fr} {a : Act} (h : FR ρ n fr a) (hρ : ∀ i, n i → ρ' i = ρ i) (hn : ∀ i, n i → n' i) : FR ρ' n' fr a :=
  ⟨fun t => (h.tmps t).mono hρ hn, h.size, h.defs.mono hρ hn⟩

theorem FR.put {fr : Fr} {a : Act} {dst : Option Tmp} {v V : Value} (h : FR ρ n fr a) (hv : VR ρ n v V) (hd : ∀ d, dst = some d → d < fr.n) : FR ρ n (fr.put dst v) (a.put dst V) := by
  cases dst with
  | none => exact h
  | some d =>
    have hd := hd d rfl
    refine ⟨fun t => ?_, ?_, h.defs⟩
    · simp only [Fr.put, Act.put]
      by_cases e : d = t
      · subst e
        rw [Fr.get_set_same]
        have : d < a.tmps.size := by rw [h.size]; exact hd
        simpa [this] using hv
      · rw [Fr.get_set_ne _ _ e]
        have := h.tmps t
        simpa [Array.getElem?_setIfInBounds_ne e] using this
    · simp [Fr.put, Act.put, Fr.set, h.size]

theorem FR.n_put (fr : Fr) (dst : Option Tmp) (v : Value) : (fr.put dst v).n = fr.n := by cases dst <;> rfl

theorem FR.ev {fr : Fr} {a : Act} (h : FR ρ n fr a) (hr : HR B G ρ n get w) {x : Operand} (hx : wfOpd G x = true) : VR ρ n (fr.ev x) (a.eval x) := by
  cases x with
  | tmp t => exact h.tmps t
  | const v => exact .of_closed hx
  | global g =>
    have hg := blt_iff.1 hx
    obtain ⟨h1, h2⟩ := hr.glob g hg
    exact .ptr ⟨hr.globs g hg, rfl, by simp [h1, h2]⟩
  | func f => exact .func rfl (fun i x y hx _ => by simp at hx) rfl (fun i x y hx _ => by simp at hx)

theorem VR.undef_inv {vs : Array Value} {V : Value} (h : VR ρ n (.tuple vs) V) (hs : vs.size = 0) : V = Go.undef := by
  generalize hv : Value.tuple vs = v at h
  cases h with
  | scalar h => subst hv; simp [Go.Ab.scalar] at h
  | tuple hc h => cases hv; rename_i ds; have : ds = #[] := Array.eq_empty_of_size_eq_zero (by omega); rw [this]; rfl
  | junk h => simp only [Go.Ab.junk, Value.tuple.injEq] at hv; subst hv; simp at hs
  | _ => cases hv

theorem wanted_rel {fr : Fr} {a : Act} (h : FR ρ n fr a) {ops : Array Oper} {o : Oper} {b : Bool} (hy : wantedA ops fr o = some b) (hd : ∀ (i : Nat) (o : Oper) d, ops[i]? = some o → o.dst = some d → d < fr.n) :
    Region.wanted o (yielded ops a.tmps) = b := by
  unfold wantedA at hy
  unfold Region.wanted
  split at hy
  · cases hy; simp_all
  · rename_i j want hg
    simp only [hg]
    split at hy
    · rename_i d hdst
      have ht := h.tmps d
      have hdn : d < a.tmps.size := by
        rw [h.size]
        obtain ⟨o, ho, hod⟩ := Option.bind_eq_some_iff.1 hdst
        exact hd j o d ho hod
      have hget : ∀ V, a.tmps.getD d undef = V → a.tmps[d]? = some V := fun V hV => by
        rw [Array.getElem?_eq_getElem hdn]
        rw [← hV]; simp [hdn]
      split at hy
      · rename_i b' hb
        cases hy
        rw [hb] at ht
        have := hget _ ht.bool_inv
        simp [yielded, hdst, this]
      · rename_i vs hb
        split at hy
        · rename_i hz
          cases hy
          rw [hb] at ht
          have := hget _ (ht.undef_inv (Nat.eq_of_beq_eq_true hz))
          simp [yielded, hdst, this, undef]
        · cases hy
      · cases hy
    · rename_i hdst
      cases hy
      simp [yielded, hdst]

/-! ### Calls -/
theorem VRs.append {a A b C : Array Value} (h1 : VRs ρ n a A) (h2 : VRs ρ n b C) : VRs ρ n (a ++ b) (A ++ C) := by
  refine ⟨by simp [h1.1, h2.1], fun i x y hx hy => ?_⟩
  rw [Array.getElem?_append] at hx hy
  rw [h1.1] at hx
  split at hx
  · rename_i hi
    rw [if_pos hi] at hy
    exact h1.2 i x y hx hy
  · rename_i hi
    rw [if_neg hi] at hy
    exact h2.2 _ x y hx hy

theorem VRs.mono {cs ds : Array Value} (h : VRs ρ n cs ds) (hρ : ∀ i, n i → ρ' i = ρ i) (hn : ∀ i, n i → n' i) : VRs ρ' n' cs ds := ⟨h.1, fun i x y hx hy => (h.2 i x y hx hy).mono hρ hn⟩

/-- **What a function does**: called with values that stand for these, in a world that this heap describes, it returns, and what holds then is one of Q's. -/
def CallQ (P : Program) (G : Nat) (k : FuncId) (args : List Value) (h : Heap) (Q : Value → Heap → Prop) : Prop :=
  ∀ (B : Nat) (ρ : Ren) (w : World) (Args : Array Value), VRs ρ (lts h.next) args.toArray Args → HR B G ρ (lts h.next) h.get w →
    Calls P k Args w fun e w' => ∃ V ρ' v h', e = .returned V ∧ Step B G ρ (lts h.next) h.get w ρ' (lts h'.next) h'.get w' ∧ VR ρ' (lts h'.next) v V ∧ Q v h'

/-- The same, of an operation that calls it (a function without a body, too). -/
def CallT (P : Program) (G : Nat) (k : FuncId) (args : List Value) (h : Heap) (Q : Value → Heap → Prop) : Prop :=
  ∀ (B : Nat) (ρ : Ren) (w : World) (Args : Array Value), VRs ρ (lts h.next) args.toArray Args → HR B G ρ (lts h.next) h.get w →
    (∃ V w' ρ' v h', (callFunc k Args).run P w = .ok (.value V) w' ∧ Step B G ρ (lts h.next) h.get w ρ' (lts h'.next) h'.get w' ∧ VR ρ' (lts h'.next) v V ∧ Q v h') ∨
    ((callFunc k Args).run P w = .ok (.enter k Args) w ∧ Calls P k Args w fun e w' => ∃ V ρ' v h', e = .returned V ∧ Step B G ρ (lts h.next) h.get w ρ' (lts h'.next) h'.get w' ∧ VR ρ' (lts h'.next) v V ∧ Q v h')

theorem CallQ.mono {k : FuncId} {args : List Value} {h : Heap} {Q Q' : Value → Heap → Prop} (hc : CallQ P G k args h Q) (hq : ∀ v h', Q v h' → Q' v h') : CallQ P G k args h Q' :=
  fun B ρ w Args h1 h2 => (hc B ρ w Args h1 h2).mono fun _ _ ⟨V, ρ', v, h', a, b, c, d⟩ => ⟨V, ρ', v, h', a, b, c, hq _ _ d⟩

theorem CallT.mono {k : FuncId} {args : List Value} {h : Heap} {Q Q' : Value → Heap → Prop} (hc : CallT P G k args h Q) (hq : ∀ v h', Q v h' → Q' v h') : CallT P G k args h Q' := by
  intro B ρ w Args h1 h2
  rcases hc B ρ w Args h1 h2 with ⟨V, w', ρ', v, h', a, b, c, d⟩ | ⟨h0, h3⟩
  · exact .inl ⟨V, w', ρ', v, h', a, b, c, hq _ _ d⟩
  · exact .inr ⟨h0, h3.mono fun _ _ ⟨V, ρ', v, h', a, b, c, d⟩ => ⟨V, ρ', v, h', a, b, c, hq _ _ d⟩⟩

/-- A function with a body is entered. -/
theorem callFunc_enter {k : FuncId} {fn : Func} {c : Code} (hf : P.funcs[k]? = some fn) (hb : fn.body = some c) (hn : (fn.name == "runtime.NumGoroutine") = false) (Args : Array Value) (w : World) :
    (callFunc k Args).run P w = .ok (.enter k Args) w := by
  simp only [callFunc, Sem.run_bind, run_program, Result.andThen_ok, hf]
  simp [hn, hb]

theorem CallT.of_callQ {k : FuncId} {args : List Value} {h : Heap} {Q : Value → Heap → Prop} {fn : Func} {c : Code} (hf : P.funcs[k]? = some fn) (hb : fn.body = some c) (hn : (fn.name == "runtime.NumGoroutine") = false)
    (hc : CallQ P G k args h Q) : CallT P G k args h Q :=
  fun B ρ w Args h1 h2 => .inr ⟨callFunc_enter hf hb hn Args w, hc B ρ w Args h1 h2⟩

theorem callOf_rel {ev EV : Operand → Value} {o : Oper} {k : FuncId} {args : List Value} (hv : ∀ x ∈ o.op.operands, VR ρ n (ev x) (EV x)) (h : callOf ev o = some (k, args)) :
    ∃ Args, VRs ρ n args.toArray Args ∧ ∀ w, (execOp EV o).run P w = (callFunc k Args).run P w := by
  obtain ⟨dst, op, type, pos, after, guard⟩ := o
  cases op <;> simp only [callOf] at h <;> (try (cases h; done)) <;> simp only [Op.operands] at hv
  case call c =>
    obtain ⟨callee, as, argTypes⟩ := c
    cases callee with
    | builtin b => simp at h
    | invoke r m => simp at h
    | value f =>
      simp only at h
      split at h
      · rename_i k' first cap hf
        cases h
        have hF := hv f (by simp [Call.operands])
        rw [hf] at hF
        obtain ⟨gs, ds, hE, h1, h2⟩ := hF.func_inv
        have hall : VRs ρ n (as.map ev) (as.map EV) := VRs.map fun x hx => hv x (by simp [Call.operands, hx])
        refine ⟨gs ++ as.map EV ++ ds, ?_, fun w => ?_⟩
        · have e : (first.toList ++ as.toList.map ev ++ cap.toList).toArray = first ++ as.map ev ++ cap := by apply Array.ext'; simp
          rw [e]
          exact (h1.append hall).append h2
        · simp only [execOp, resolve, hE, Deferred.ofValue, Sem.run_bind, Sem.run_pure, Result.andThen_ok, invoke]
      · cases h

theorem deferOf_rel {ev EV : Operand → Value} {o : Oper} {d : Deferred} (hv : ∀ x ∈ o.op.operands, VR ρ n (ev x) (EV x)) (h : deferOf ev o = some d) :
    ∃ D, DefR ρ n d D ∧ ∀ w, (execOp EV o).run P w = .ok (.defer D) w := by
  obtain ⟨dst, op, type, pos, after, guard⟩ := o
  cases op <;> simp only [deferOf] at h <;> (try (cases h; done)) <;> simp only [Op.operands] at hv
  case defer c =>
    obtain ⟨callee, as, argTypes⟩ := c
    cases callee with
    | builtin b => simp at h
    | invoke r m => simp at h
    | value f =>
      simp only at h
      split at h
      · rename_i k' first cap hf
        cases h
        have hF := hv f (by simp [Call.operands])
        rw [hf] at hF
        obtain ⟨gs, ds, hE, h1, h2⟩ := hF.func_inv
        have hall : VRs ρ n (as.map ev) (as.map EV) := VRs.map fun x hx => hv x (by simp [Call.operands, hx])
        have h3 := h1.append hall
        refine ⟨{ target := .fn (.func k') ds, args := gs ++ as.map EV }, ⟨k', cap, ds, rfl, rfl, h2.1, h2.2, h3.1, h3.2⟩, fun w => ?_⟩
        simp only [execOp, resolve, hE, Deferred.ofValue, Sem.run_bind, Sem.run_pure, Result.andThen_ok]
      · cases h

/-! ### One operation -/
/-- An operation, run in the abstract state. -/
def OpT (P : Program) (G : Nat) (o : Oper) (K : Fr → Heap → Prop) (fr : Fr) (h : Heap) : Prop :=
  match clsOf P o with
  | .p => ∃ v, pOp P fr.ev o = some v ∧ K (fr.put o.dst v) h
  | .r => ∃ v, rOp P fr.ev h.get o = some v ∧ K (fr.put o.dst v) h
  | .a => ∃ b f, aOp P fr.ev o = some (b, f) ∧ K (fr.put o.dst (f h.next)) (h.alloc b)
  | .e => ∃ v h', eOp P fr.ev o h = some (v, h') ∧ K (fr.put o.dst v) h'
  | .call => ∃ k args, callOf fr.ev o = some (k, args) ∧ CallT P G k args h fun v h' => K (fr.put o.dst v) h'
  | .defer => ∃ d, deferOf fr.ev o = some d ∧ K ({ fr with df := d :: fr.df }.put o.dst undef) h
  | .bad => False

theorem OpT.mono {o : Oper} {K K' : Fr → Heap → Prop} {fr : Fr} {h : Heap} (hk : ∀ fr h, K fr h → K' fr h) (ho : OpT P G o K fr h) : OpT P G o K' fr h := by
  unfold OpT at *
  split <;> simp only [*] at ho
  · obtain ⟨v, a, b⟩ := ho; exact ⟨v, a, hk _ _ b⟩
  · obtain ⟨v, a, b⟩ := ho; exact ⟨v, a, hk _ _ b⟩
  · obtain ⟨v, c, a, b⟩ := ho; exact ⟨v, c, a, hk _ _ b⟩
  · obtain ⟨v, c, a, b⟩ := ho; exact ⟨v, c, a, hk _ _ b⟩
  · obtain ⟨v, c, a, b⟩ := ho; exact ⟨v, c, a, b.mono fun _ _ => hk _ _⟩
  · obtain ⟨v, a, b⟩ := ho; exact ⟨v, a, hk _ _ b⟩

theorem Makes.step {b : Blk} {f : Nat → Value} {V : Value} {k : Nat} (hr : HR B G ρ (lts k) get w) (hm : Makes B ρ (lts k) w b f V w') :
    ∃ ρ', Step B G ρ (lts k) get w ρ' (lts (k + 1)) (upd get k (some b)) w' ∧ VR ρ' (lts (k + 1)) (f k) V := by
  obtain ⟨hw, _, r, hrb, hall⟩ := hm
  obtain ⟨h1, h2⟩ := hall (fun i => if i = k then r else ρ i) (lts (k + 1)) k (fun i hi => by have hi : i < k := hi; simp [Nat.ne_of_lt hi]) (fun i hi => Nat.lt_succ_of_lt hi) (Nat.lt_succ_self _) (by simp)
  exact ⟨_, hr.newBlk (Nat.lt_irrefl _) (fun i hi => Nat.lt_succ_of_lt hi) (Nat.lt_succ_self _) hw (fun i hi => by have hi : i < k := hi; simp [Nat.ne_of_lt hi]) (by simp [hrb]) h1, h2⟩

theorem OpT.wp {o : Oper} {K : Fr → Heap → Prop} {fr : Fr} {h : Heap} {a : Act} {next : Act → World → Prop} {Q : Exit → Act → World → Prop} (ho : OpT P G o K fr h) (hf : FR ρ (lts h.next) fr a) (hr : HR B G ρ (lts h.next) h.get w)
    (hwf : wfOper G fr.n o = true) (hn : ∀ fr' h' a' w' ρ', K fr' h' → FR ρ' (lts h'.next) fr' a' → Step B G ρ (lts h.next) h.get w ρ' (lts h'.next) h'.get w' → next a' w') : o.wp P a w next Q := by
  simp only [wfOper, Bool.and_eq_true, List.all_eq_true] at hwf
  have hv : ∀ x ∈ o.op.operands, VR ρ (lts h.next) (fr.ev x) (a.eval x) := fun x hx => hf.ev hr (hwf.1 x (by simpa using hx))
  have hd : ∀ d, o.dst = some d → d < fr.n := fun d hd => by have := hwf.2; rw [hd] at this; exact blt_iff.1 this
  unfold Oper.wp
  unfold OpT at ho
  split at ho
  · obtain ⟨v, h1, h2⟩ := ho
    obtain ⟨V, h3, h4⟩ := pOp_sound (EV := a.eval) hv h1
    rw [h4]
    exact hn _ _ _ _ _ h2 (hf.put h3 hd) (Step.refl hr)
  · obtain ⟨v, h1, h2⟩ := ho
    obtain ⟨V, h3, h4⟩ := rOp_sound (EV := a.eval) hr hv h1
    rw [h4]
    exact hn _ _ _ _ _ h2 (hf.put h3 hd) (Step.refl hr)
  · obtain ⟨b, f, h1, h2⟩ := ho
    obtain ⟨V, w', h3, h4⟩ := aOp_sound (EV := a.eval) hr.base hv h1
    rw [h3]
    obtain ⟨ρ', h5, h6⟩ := h4.step hr
    rw [← Heap.get_alloc] at h5
    exact hn _ _ _ _ _ h2 ((hf.mono h5.agree h5.le).put h6 hd) h5
  · obtain ⟨v, h', h1, h2⟩ := ho
    obtain ⟨nx, w', ρ', V, h3, h4, h5, h6⟩ := eOp_sound (EV := a.eval) hr hv h1
    rw [h3]
    rcases h4 with rfl | ⟨rfl, rfl⟩
    · exact hn _ _ _ _ _ h2 ((hf.mono h5.agree h5.le).put h6 hd) h5
    · exact hn _ _ _ _ _ h2 ((hf.mono h5.agree h5.le).put h6 hd) h5
  · obtain ⟨k, args, h1, h2⟩ := ho
    obtain ⟨Args, h3, h4⟩ := callOf_rel (P := P) (EV := a.eval) hv h1
    rw [h4]
    rcases h2 B ρ w Args h3 hr with ⟨V, w', ρ', v, h', e1, e2, e3, e4⟩ | ⟨e0, e1⟩
    · rw [e1]
      exact hn _ _ _ _ _ e4 ((hf.mono e2.agree e2.le).put e3 hd) e2
    · rw [e0]
      refine e1.mono fun e w' ⟨V, ρ', v, h', q1, q2, q3, q4⟩ => ?_
      subst q1
      exact hn _ _ _ _ _ q4 ((hf.mono q2.agree q2.le).put q3 hd) q2
  · obtain ⟨d, h1, h2⟩ := ho
    obtain ⟨D, h3, h4⟩ := deferOf_rel (P := P) (EV := a.eval) hv h1
    rw [h4]
    have hf' : FR ρ (lts h.next) { fr with df := d :: fr.df } { a with defers := D :: a.defers } := ⟨hf.tmps, hf.size, .cons h3 hf.defs⟩
    exact hn _ _ _ _ _ h2 (hf'.put .undef hd) (Step.refl hr)
  · exact ho.elim

/-! ### A region in the order of its text -/
def OpsT (P : Program) (G : Nat) (ops : Array Oper) (Q : Fr → Heap → Prop) : List Oper → Fr → Heap → Prop
  | [], fr, h => Q fr h
  | o :: rest, fr, h => (wantedA ops fr o = some true ∧ OpT P G o (OpsT P G ops Q rest) fr h) ∨ (wantedA ops fr o = some false ∧ OpsT P G ops Q rest (fr.put o.dst undef) h)

theorem OpT_n {o : Oper} {K : Fr → Heap → Prop} {fr : Fr} {h : Heap} (ho : OpT P G o K fr h) : OpT P G o (fun fr' h' => K fr' h' ∧ fr'.n = fr.n) fr h := by
  unfold OpT at *
  split <;> simp only [*] at ho
  · obtain ⟨v, a, b⟩ := ho; exact ⟨v, a, b, FR.n_put _ _ _⟩
  · obtain ⟨v, a, b⟩ := ho; exact ⟨v, a, b, FR.n_put _ _ _⟩
  · obtain ⟨v, c, a, b⟩ := ho; exact ⟨v, c, a, b, FR.n_put _ _ _⟩
  · obtain ⟨v, c, a, b⟩ := ho; exact ⟨v, c, a, b, FR.n_put _ _ _⟩
  · obtain ⟨v, c, a, b⟩ := ho; exact ⟨v, c, a, b.mono fun _ _ hh => ⟨hh, FR.n_put _ _ _⟩⟩
  · obtain ⟨v, a, b⟩ := ho; exact ⟨v, a, b, FR.n_put _ _ _⟩

theorem OpsT.wp {ops : Array Oper} {Q : Fr → Heap → Prop} {Q' : Exit → Act → World → Prop} {N : Nat} (hwf : ∀ o ∈ ops, wfOper G N o = true) :
    ∀ (m k : Nat) (fr : Fr) (h : Heap) (a : Act) (w : World) (ρ : Ren), k + m = ops.size → OpsT P G ops Q (ops.toList.drop k) fr h → fr.n = N → FR ρ (lts h.next) fr a → HR B G ρ (lts h.next) h.get w →
      (∀ fr' h' a' w' ρ', Q fr' h' → fr'.n = N → FR ρ' (lts h'.next) fr' a' → Step B G ρ (lts h.next) h.get w ρ' (lts h'.next) h'.get w' → Q' .normal a' w') → wpOps P ops Q' (List.range' k m) a w
  | 0, k, fr, h, a, w, ρ, hk, ht, hN, hf, hr, hq => by
    rw [List.drop_of_length_le (by simp; omega)] at ht
    exact hq _ _ _ _ _ ht hN hf (Step.refl hr)
  | m + 1, k, fr, h, a, w, ρ, hk, ht, hN, hf, hr, hq => by
    have hlt : k < ops.size := by omega
    have hdrop : ops.toList.drop k = ops[k] :: ops.toList.drop (k + 1) := by
      rw [List.drop_eq_getElem_cons (by simpa using hlt)]; simp
    rw [hdrop] at ht
    have hwo := hwf ops[k] (Array.getElem_mem hlt)
    have hdst : ∀ (i : Nat) (o : Oper) d, ops[i]? = some o → o.dst = some d → d < fr.n := fun i o d hi hd => by
      have := hwf o (Array.mem_of_getElem? hi)
      simp only [wfOper, Bool.and_eq_true] at this
      have := this.2; rw [hd] at this
      rw [hN]; exact blt_iff.1 this
    simp only [List.range'_succ, wpOps, Array.getElem?_eq_getElem hlt]
    rcases ht with ⟨hw, ho⟩ | ⟨hw, ho⟩
    · rw [wanted_rel hf hw hdst, if_pos rfl]
      refine .inl ((OpT_n ho).wp hf hr (by rw [hN]; exact hwo) fun fr' h' a' w' ρ' ⟨hk', hn'⟩ hf' hst => ?_)
      exact OpsT.wp hwf m (k + 1) fr' h' a' w' ρ' (by omega) hk' (hn'.trans hN) hf' hst.hr fun fr2 h2 a2 w2 ρ2 q1 q2 q3 q4 => hq fr2 h2 a2 w2 ρ2 q1 q2 q3 (hst.trans q4)
    · rw [wanted_rel hf hw hdst, if_neg (by simp)]
      refine OpsT.wp hwf m (k + 1) (fr.put ops[k].dst undef) h (a.put ops[k].dst undef) w ρ (by omega) ho ((FR.n_put _ _ _).trans hN) (hf.put .undef fun d hd => hdst k ops[k] d (by simp [hlt]) hd) hr hq

/-! ### Code -/
def Ex.conc : Ex → Exit
  | .normal => .normal
  | .exit id => .exit id
  | .ret => .ret

/-- **What a text does.** -/
def T (P : Program) (G N : Nat) (c : Code) (Q : Ex → Fr → Heap → Prop) (fr : Fr) (h : Heap) : Prop :=
  fr.n = N → ∀ (B : Nat) (ρ : Ren) (a : Act) (w : World), FR ρ (lts h.next) fr a → HR B G ρ (lts h.next) h.get w →
    c.wp P (fun e a' w' => ∃ x fr' h' ρ', e = Ex.conc x ∧ FR ρ' (lts h'.next) fr' a' ∧ Step B G ρ (lts h.next) h.get w ρ' (lts h'.next) h'.get w' ∧ fr'.n = N ∧ Q x fr' h') a w

variable {N : Nat} {c c1 c2 : Code} {Q Q' : Ex → Fr → Heap → Prop} {fr : Fr} {h : Heap}

theorem T.mono (ht : T P G N c Q fr h) (hq : ∀ x fr h, Q x fr h → Q' x fr h) : T P G N c Q' fr h :=
  fun hn B ρ a w hf hr => wp_mono (ht hn B ρ a w hf hr) fun _ _ _ ⟨x, fr', h', ρ', a1, a2, a3, a4, a5⟩ => ⟨x, fr', h', ρ', a1, a2, a3, a4, hq _ _ _ a5⟩

theorem T.skip (hq : Q .normal fr h) : T P G N .skip Q fr h := fun hn _ ρ _ _ hf hr => wp_skip ⟨.normal, fr, h, ρ, rfl, hf, Step.refl hr, hn, hq⟩
theorem T.label {l : Nat} (hq : Q .normal fr h) : T P G N (.label l) Q fr h := fun hn _ ρ _ _ hf hr => wp_label ⟨.normal, fr, h, ρ, rfl, hf, Step.refl hr, hn, hq⟩
theorem T.exit {id : Nat} (hq : Q (.exit id) fr h) : T P G N (.exit id) Q fr h := fun hn _ ρ _ _ hf hr => wp_exit ⟨.exit id, fr, h, ρ, rfl, hf, Step.refl hr, hn, hq⟩
theorem T.ret (hq : Q .ret fr h) : T P G N .ret Q fr h := fun hn _ ρ _ _ hf hr => wp_ret ⟨.ret, fr, h, ρ, rfl, hf, Step.refl hr, hn, hq⟩

theorem T.seq (h1 : T P G N c1 (fun x fr h => match x with | .normal => T P G N c2 Q fr h | x => Q x fr h) fr h) : T P G N (.seq c1 c2) Q fr h := by
  intro hn B ρ a w hf hr
  refine wp_seq (wp_mono (h1 hn B ρ a w hf hr) ?_)
  rintro e a' w' ⟨x, fr', h', ρ', rfl, hf', hst, hn', hq⟩
  cases x with
  | normal =>
    refine wp_mono (hq hn' B ρ' a' w' hf' hst.hr) ?_
    rintro e a2 w2 ⟨x, fr2, h2, ρ2, rfl, hf2, hst2, hn2, hq2⟩
    exact ⟨x, fr2, h2, ρ2, rfl, hf2, hst.trans hst2, hn2, hq2⟩
  | exit id => exact ⟨.exit id, fr', h', ρ', rfl, hf', hst, hn', hq⟩
  | ret => exact ⟨.ret, fr', h', ρ', rfl, hf', hst, hn', hq⟩

theorem T.cond {x : Operand} {b : Bool} (hw : wfOpd G x = true) (hx : fr.ev x = .bool b) (h1 : T P G N (if b then c1 else c2) Q fr h) : T P G N (.cond x c1 c2) Q fr h := by
  intro hn B ρ a w hf hr
  have := hf.ev hr hw
  rw [hx] at this
  exact wp_cond this.bool_inv (h1 hn B ρ a w hf hr)

theorem T.block {id : Nat} (h1 : T P G N c (fun x fr h => match x with | .exit j => if j = id then Q .normal fr h else Q (.exit j) fr h | x => Q x fr h) fr h) : T P G N (.block id c) Q fr h := by
  intro hn B ρ a w hf hr
  refine wp_block (wp_mono (h1 hn B ρ a w hf hr) ?_)
  rintro e a' w' ⟨x, fr', h', ρ', rfl, hf', hst, hn', hq⟩
  cases x with
  | normal => exact ⟨.normal, fr', h', ρ', rfl, hf', hst, hn', hq⟩
  | exit j =>
    simp only [Ex.conc, Exit.inBlock]
    simp only at hq
    by_cases hj : j = id
    · rw [if_pos hj] at hq ⊢
      exact ⟨.normal, fr', h', ρ', rfl, hf', hst, hn', hq⟩
    · rw [if_neg hj] at hq ⊢
      exact ⟨.exit j, fr', h', ρ', rfl, hf', hst, hn', hq⟩
  | ret => exact ⟨.ret, fr', h', ρ', rfl, hf', hst, hn', hq⟩

theorem T.scope (h1 : T P G N c Q fr h) : T P G N (.scope c) Q fr h := by
  intro hn B ρ a w hf hr
  refine wp_scope_straight (wp_mono (h1 hn B ρ a w hf hr) ?_)
  rintro e a' w' ⟨x, fr', h', ρ', rfl, r⟩
  cases x <;> exact ⟨_, fr', h', ρ', rfl, r⟩

theorem T.region {id : Nat} {ops : Array Oper} (hwf : ops.toList.all (wfOper G N) = true) (h1 : OpsT P G ops (fun fr h => Q .normal fr h) ops.toList fr h) : T P G N (.region id ops false) Q fr h := by
  intro hn B ρ a w hf hr
  refine wp_region ?_
  rw [List.range_eq_range']
  refine OpsT.wp (Q := fun fr h => Q .normal fr h) (N := N) (fun o ho => ?_) ops.size 0 fr h a w ρ (by omega) (by simpa using h1) hn hf hr ?_
  · simp only [List.all_eq_true] at hwf
    exact hwf o (by simpa using ho)
  · intro fr' h' a' w' ρ' q1 q2 q3 q4
    exact ⟨.normal, fr', h', ρ', rfl, q3, q4, q2, q1⟩

/-- A loop, its rounds counted. -/
def LoopT (P : Program) (G N : Nat) (c : Code) (Q : Ex → Fr → Heap → Prop) : Nat → Fr → Heap → Prop
  | 0, _, _ => False
  | k + 1, fr, h => T P G N c (fun x fr h => match x with | .normal => LoopT P G N c Q k fr h | x => Q x fr h) fr h

theorem T.loop (k : Nat) (h1 : LoopT P G N c Q k fr h) : T P G N (.loop c) Q fr h := by
  intro hn B ρ a w hf hr
  refine wp_loop_rounds k ?_
  have key : ∀ (k : Nat) (fr : Fr) (h : Heap), LoopT P G N c Q k fr h → fr.n = N → ∀ (B : Nat) (ρ : Ren) (a : Act) (w : World), FR ρ (lts h.next) fr a → HR B G ρ (lts h.next) h.get w → ∀ (Q' : Exit → Act → World → Prop),
      (∀ x fr' h' ρ' a' w', FR ρ' (lts h'.next) fr' a' → Step B G ρ (lts h.next) h.get w ρ' (lts h'.next) h'.get w' → fr'.n = N → Q x fr' h' → Q' (Ex.conc x) a' w') → Code.rounds P c Q' k a w := by
    intro k
    induction k with
    | zero => intro fr h hl; exact hl.elim
    | succ k ih =>
      intro fr h hl hn B ρ a w hf hr Q' hq
      rw [rounds_succ]
      refine wp_mono (hl hn B ρ a w hf hr) ?_
      rintro e a' w' ⟨x, fr', h', ρ', rfl, hf', hst, hn', hqx⟩
      cases x with
      | normal => exact ih fr' h' hqx hn' B ρ' a' w' hf' hst.hr Q' fun x fr2 h2 ρ2 a2 w2 q1 q2 q3 q4 => hq x fr2 h2 ρ2 a2 w2 q1 (hst.trans q2) q3 q4
      | exit id => exact hq (.exit id) fr' h' ρ' a' w' hf' hst hn' hqx
      | ret => exact hq .ret fr' h' ρ' a' w' hf' hst hn' hqx
  exact key k fr h h1 hn B ρ a w hf hr _ fun x fr' h' ρ' a' w' q1 q2 q3 q4 => ⟨x, fr', h', ρ', rfl, q1, q2, q3, q4⟩

end

end Go.Ab
