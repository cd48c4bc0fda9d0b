/- The abstract machine: a function, called. -/
import Derived.Test.YtmipibapdgcgnaaAbDrawWp
namespace Go.Ab
open Go

section
variable {P : Program} {ρ ρ' : Ren} {n n' : Scope} {B G : Nat} {get : Get} {w w' : World}

theorem frame0_get : ∀ (args : List Value) (i : Nat) (t : Tree Value) (j : Nat), (frame0.go args i t).get j = if i ≤ j ∧ j < i + args.length then args[j - i]? else t.get j
  | [], i, t, j => by simp only [frame0.go, List.length_nil]; rw [if_neg (by omega)]
  | v :: vs, i, t, j => by
    rw [frame0.go, frame0_get vs (i + 1)]
    simp only [List.length_cons]
    by_cases h : i = j
    · subst h
      rw [if_neg (by omega), if_pos (by omega), Tree.get_put_same]
      simp
    · rw [Tree.get_put_ne _ _ h]
      by_cases h2 : i + 1 ≤ j ∧ j < i + 1 + vs.length
      · rw [if_pos h2, if_pos (by omega)]
        have : j - i = (j - (i + 1)) + 1 := by omega
        rw [this]; simp
      · rw [if_neg h2, if_neg (by omega)]

theorem FR.frame0 {k : Nat} {args : List Value} {Args : Array Value} (h : VRs ρ n args.toArray Args) (hk : args.length ≤ k) : FR ρ n (frame0 k args) { tmps := Args ++ Array.replicate (k - Args.size) undef, defers := [] } := by
  have hs : args.length = Args.size := by have := h.1; simpa using this
  refine ⟨fun t => ?_, by simp [Ab.frame0]; omega, .nil⟩
  unfold Ab.frame0 Fr.get
  simp only [frame0_get]
  by_cases ht : t < Args.size
  · rw [if_pos (by omega)]
    have h1 : args.toArray[t]? = some args[t] := by simp [hs, ht]
    have := h.2 t args[t] Args[t] h1 (by simp [ht])
    have ht' : t < args.length := by omega
    simp only [Nat.sub_zero, List.getElem?_eq_getElem ht', Option.getD_some]
    have e : (Args ++ Array.replicate (k - Args.size) undef).getD t undef = Args[t] := by simp [Array.getElem?_append, ht]
    rw [e]; exact this
  · rw [if_neg (by omega), Tree.get_leaf]
    have e : (Args ++ Array.replicate (k - Args.size) undef).getD t undef = undef := by
      simp only [Array.getD_eq_getD_getElem?, Array.getElem?_append, if_neg ht]
      by_cases h2 : t - Args.size < k - Args.size
      · simp [h2]
      · simp [h2]
    rw [e]; exact .undef

/-! ### Results -/
theorem VRs.cons {x y : Value} {l L : List Value} (h : VR ρ n x y) (h2 : VRs ρ n l.toArray L.toArray) : VRs ρ n (x :: l).toArray (y :: L).toArray := by
  refine ⟨by have := h2.1; simp at this ⊢; exact this, fun i a b ha hb => ?_⟩
  cases i with
  | zero => simp at ha hb; subst ha; subst hb; exact h
  | succ i => exact h2.2 i a b (by simpa using ha) (by simpa using hb)

def resM (tmps : Array Value) : ResultVar → Sem Value
  | .tmp t => pure (tmps.getD t undef)
  | .cell b t => do loadVar t (← asAddr (tmps.getD b undef))

theorem asAddr_ptr (A : Addr) : (asAddr (.pointer (some A)) : Sem Addr).run P w = .ok A w := rfl

theorem resOf_rel {h : Heap} {fr : Fr} {a : Act} (hf : FR ρ n fr a) (hr : HR B G ρ n h.get w) : ∀ (rs : List ResultVar) (l : List Value), resOf P h fr rs = some l →
    ∃ L, VRs ρ n l.toArray L.toArray ∧ (rs.mapM (resM a.tmps)).run P w = .ok L w
  | [], l, h0 => by cases h0; exact ⟨[], ⟨rfl, fun i x y hx _ => by simp at hx⟩, rfl⟩
  | .tmp t :: rs, l, h0 => by
    simp only [resOf, Option.map_eq_some_iff] at h0
    obtain ⟨l', h1, rfl⟩ := h0
    obtain ⟨L, h2, h3⟩ := resOf_rel hf hr rs l' h1
    refine ⟨a.tmps.getD t undef :: L, VRs.cons (hf.tmps t) h2, ?_⟩
    simp only [List.mapM_cons, Sem.run_bind, Sem.run_pure, Result.andThen_ok, h3, resM]
  | .cell b t :: rs, l, h0 => by
    simp only [resOf] at h0
    have hb := hf.tmps b
    split at h0
    · rename_i ad had hagg
      simp only [Option.bind_eq_some_iff, Option.map_eq_some_iff] at h0
      obtain ⟨m, hm, cl, hcl, l', h1, rfl⟩ := h0
      obtain ⟨L, h2, h3⟩ := resOf_rel hf hr rs l' h1
      rw [had] at hb
      obtain ⟨A, hA, har⟩ := hb.ptr_inv
      obtain ⟨_, L1, hL, hrel, hc⟩ := cellsAt_rel hr har hcl
      refine ⟨.agg L1.toArray :: L, VRs.cons (.agg hrel.1 hrel.2) h2, ?_⟩
      simp only [List.mapM_cons, Sem.run_bind, Sem.run_pure, Result.andThen_ok, h3, resM, hA, asAddr_ptr, loadVar_agg hagg hm hL hc]
    · rename_i ad had hagg
      simp only [Option.bind_eq_some_iff, Option.map_eq_some_iff] at h0
      obtain ⟨v, hv, l', h1, rfl⟩ := h0
      obtain ⟨L, h2, h3⟩ := resOf_rel hf hr rs l' h1
      rw [had] at hb
      obtain ⟨A, hA, har⟩ := hb.ptr_inv
      obtain ⟨V, hc, hvr⟩ := cellAt_rel hr har hv
      refine ⟨V :: L, VRs.cons hvr h2, ?_⟩
      simp only [List.mapM_cons, Sem.run_bind, Sem.run_pure, Result.andThen_ok, h3, resM, hA, asAddr_ptr, loadVar_cell hagg hc]
    · cases h0

theorem results_eq (fn : Func) (tmps : Array Value) : results fn tmps = fn.results.mapM (resM tmps) >>= fun vs => pure (if h : vs.size = 1 then vs[0] else .tuple vs) := by
  unfold results
  congr 2

theorem nil_defs {l : List Deferred} (h : DefsR ρ n [] l) : l = [] := by cases h; rfl

theorem results_rel {fn : Func} {h : Heap} {fr : Fr} {a : Act} (hf : FR ρ n fr a) (hr : HR B G ρ n h.get w) {l : List Value} (h0 : resOf P h fr fn.results.toList = some l) :
    ∃ V, (results fn a.tmps).run P w = .ok V w ∧ VR ρ n (tupled l) V := by
  obtain ⟨L, h1, h2⟩ := resOf_rel hf hr _ _ h0
  refine ⟨if h : L.toArray.size = 1 then L.toArray[0] else .tuple L.toArray, ?_, ?_⟩
  · rw [results_eq, Array.mapM_eq_mapM_toList]
    simp only [Sem.run_bind, Sem.run_map, h2, Result.andThen_ok, Sem.run_pure]
  · have hs : l.length = L.length := by have := h1.1; simpa using this
    match l, L, h1, hs with
    | [], [], h1, _ => exact .tuple rfl fun i x y hx _ => by simp at hx
    | [x], [y], h1, _ => exact h1.2 0 x y (by simp) (by simp)
    | x :: x2 :: xs, y :: y2 :: ys, h1, _ => exact .tuple h1.1 h1.2

/-! ### Deferred calls -/
def DefersT (P : Program) (G : Nat) (K : Heap → Prop) : List Deferred → Heap → Prop
  | [], h => K h
  | d :: ds, h => ∃ k cap fn c, d.target = .fn (.func k) cap ∧ P.funcs[k]? = some fn ∧ fn.body = some c ∧ (fn.name == "runtime.NumGoroutine") = false ∧ d.args.size + cap.size ≤ fn.ntmps ∧
    T P G fn.ntmps c (fun x fr h' => (x = .normal ∨ x = .ret) ∧ fr.df = [] ∧ (∃ l, resOf P h' fr fn.results.toList = some l) ∧ DefersT P G K ds h') (frame0 fn.ntmps (d.args.toList ++ cap.toList)) h

theorem leaves_of {fn : Func} {tmps : Array Value} {R : Ending → World → Prop} {K : Heap → Prop} : ∀ (ds : List Deferred) (h : Heap) (Ds : List Deferred) (ρ : Ren) (w : World), DefersT P G K ds h → DefsR ρ (lts h.next) ds Ds → HR B G ρ (lts h.next) h.get w →
    (∀ h' ρ' w', K h' → Step B G ρ (lts h.next) h.get w ρ' (lts h'.next) h'.get w' → ∃ v, (results fn tmps).run P w' = .ok v w' ∧ R (.returned v) w') → Leaves P fn tmps R Ds .returning w
  | [], h, Ds, ρ, w, hk, hd, hr, hq => by
    cases hd
    exact hq h ρ w hk (Step.refl hr)
  | d :: ds, h, Ds, ρ, w, hk, hd, hr, hq => by
    cases hd with
    | cons hd1 hds =>
      rename_i D Ds
      obtain ⟨k, cap, fn', c, ht, hf, hb, hnm, hlen, hT⟩ := hk
      obtain ⟨k', cap', Cap, e1, e2, e3, e4, e5, e6⟩ := hd1
      rw [ht] at e1
      cases e1
      obtain ⟨Dt, Da⟩ := D
      simp only at e2 e5 e6
      subst e2
      have hargs : VRs ρ (lts h.next) (d.args.toList ++ cap.toList).toArray (Da ++ Cap) := by
        have : (d.args.toList ++ cap.toList).toArray = d.args ++ cap := by apply Array.ext'; simp
        rw [this]
        exact VRs.append ⟨e5, e6⟩ ⟨e3, e4⟩
      refine leaves_cons (f := k) (args := Da ++ Cap) (by simp) ?_ ?_
      · simp only [invoke]
        exact callFunc_enter hf hb hnm _ _
      · refine CallsD.mono (R := fun e u' w' => u' = .returning ∧ ∃ v, e = .returned v ∧ Leaves P fn tmps R Ds .returning w') (callsD_of_wp (R := fun e w' => ∃ v, e = .returned v ∧ Leaves P fn tmps R Ds .returning w') hf hb ?_) ?_
        · refine wp_mono (hT rfl B ρ _ w (FR.frame0 hargs (by simp; omega)) hr) ?_
          rintro e a' w' ⟨x, fr', h', ρ', rfl, hf', hst, hn', hx, hdf, ⟨l, hl⟩, hrest⟩
          have hda : a'.defers = [] := nil_defs (hdf ▸ hf'.defs)
          obtain ⟨V, hV, _⟩ := results_rel (fn := fn') hf' hst.hr hl
          have hL : Leaves P fn tmps R Ds .returning w' := leaves_of ds h' Ds ρ' w' hrest (hds.mono hst.agree hst.le) hst.hr fun h2 ρ2 w2 q1 q2 => hq h2 ρ2 w2 q1 (hst.trans q2)
          rcases hx with rfl | rfl <;> exact ⟨hda, V, hV, V, rfl, hL⟩
        · rintro e u' w' ⟨rfl, v, rfl, hL⟩
          exact hL

/-- **A function's contract from its text.** -/
theorem CallQ.of_body {k : FuncId} {fn : Func} {c : Code} {args : List Value} {h : Heap} {Q : Value → Heap → Prop} (hf : P.funcs[k]? = some fn) (hb : fn.body = some c) (hlen : args.length ≤ fn.ntmps)
    (ht : T P G fn.ntmps c (fun x fr h' => (x = .normal ∨ x = .ret) ∧ DefersT P G (fun h2 => ∃ l, resOf P h2 fr fn.results.toList = some l ∧ Q (tupled l) h2) fr.df h') (frame0 fn.ntmps args) h) : CallQ P G k args h Q := by
  intro B ρ w Args hargs hr
  refine calls_of_wp_defers hf hb ?_
  refine wp_mono (ht rfl B ρ _ w (FR.frame0 hargs hlen) hr) ?_
  rintro e a' w' ⟨x, fr', h', ρ', rfl, hf', hst, hn', hx, hD⟩
  have hL : Leaves P fn a'.tmps (fun e w' => ∃ V ρ' v h', e = .returned V ∧ Step B G ρ (lts h.next) h.get w ρ' (lts h'.next) h'.get w' ∧ VR ρ' (lts h'.next) v V ∧ Q v h') a'.defers .returning w' := by
    refine leaves_of fr'.df h' a'.defers ρ' w' hD hf'.defs hst.hr ?_
    rintro h2 ρ2 w2 ⟨l, hl, hq⟩ hst2
    obtain ⟨V, hV, hvr⟩ := results_rel (fn := fn) (hf'.mono hst2.agree hst2.le) hst2.hr hl
    exact ⟨V, hV, V, ρ2, tupled l, h2, rfl, hst.trans hst2, hvr, hq⟩
  rcases hx with rfl | rfl <;> exact hL

end
end Go.Ab
