/- The abstract machine: from a run to a statement. -/
import Derived.Test.YtmipibapdgcgnaaAbLib
import Derived.ProofKit
import Derived.OpenShut
namespace Go.Ab
open Go Go.ChangeShapes

/-- All that was there is as it was. -/
structure Stays (w w' : World) : Prop where
  old : ∀ k, k < w.heap.size → w'.heap[k]? = w.heap[k]?
  size : w.heap.size ≤ w'.heap.size
  os : w'.os = w.os
  output : w'.output = w.output

theorem Stays.kept {w w' : World} (h : Stays w w') (may : MemPlace → Prop) : w.keptBut w' may := by
  refine ⟨h.os, h.output, fun i hi => ?_⟩
  rw [h.old i hi]
  exact (World.keptBut_refl w may).2.2 i hi

theorem Stays.frozen {w w' : World} (h : Stays w w') {a : Addr} (ha : a.block < w.heap.size) : w'.frozen? a = w.frozen? a := by
  unfold World.frozen?
  rw [h.old _ ha]

/-- A heap of which nothing is known but the globals' numbers. -/
def rho0 : Ren := fun i => ⟨i, 0, 0⟩

theorem hr_empty (G : Nat) (w : World) : HR w.heap.size G rho0 (lts G) (Heap.get ⟨G, .leaf⟩) w where
  blk := fun id b h => by simp [Heap.get, Tree.get_leaf] at h
  lt := fun id b h => by simp [Heap.get, Tree.get_leaf] at h
  inj := fun i j h => by simp [own, Heap.get, Tree.get_leaf] at h
  glob := fun g _ => ⟨rfl, rfl⟩
  globs := fun g h => h
  base := Nat.le_refl _

theorem Step.stays {G : Nat} {ρ ρ' : Ren} {n n' : Scope} {g g' : Get} {w w' : World} (hr : HR w.heap.size G ρ n g w) (s : Step w.heap.size G ρ n g w ρ' n' g' w') : Stays w w' :=
  ⟨fun k hk => s.below hr k hk, s.size, s.os, s.output⟩

/-- A call of no arguments that has been run. -/
theorem calls_known {E : Env} {G : Nat} (hE : EnvOk E G) {L d k : Nat} {v : Value} (hs : scalar v = true) (h : ((runFn E L d k [] ⟨G, .leaf⟩).map (·.1)) = some v) (w : World) : Calls E.P k #[] w fun e w' => e = .returned v ∧ Stays w w' := by
  simp only [Option.map_eq_some_iff] at h
  obtain ⟨⟨v1, h'⟩, h1, rfl⟩ := h
  have := (runFn_sound hE d k [] ⟨G, .leaf⟩ v1 h' h1).1 w.heap.size rho0 w #[] ⟨rfl, fun i x y hx _ => by simp at hx⟩ (hr_empty G w)
  refine this.mono fun e w' ⟨V, ρ', v2, h2, he, hst, hv, q1, q2⟩ => ?_
  subst q1; subst q2
  exact ⟨by rw [he, hv.scalar_eq hs], hst.stays (hr_empty G w)⟩

/-- The end of a law: all reads as it read. -/
theorem post_of_stays {H : Type} {enc : TypeId × Value → H} {P : Program} {f : Func} {s : ChangeSpec} {apart fresh handsOn : Bool} {W W' : World} {args : Array Value} {v : Value} {ds gs : List (DataW H)} {before pa pv : List MemPlace}
    (hW : DataW.Whole enc P f.params.toList s.vars apart W args.toList ds gs before) (hst : Stays W W')
    (hres : ∀ (b : Nat) (sp : Nat → Bool) (hd : Bool), DataW.TrodAll enc P W' b sp hd f.resultTypes.toList (v.resultList f.resultTypes.size) (s.fn H (ds ++ gs)).results [])
    (hargs : DataW.TrodAll enc P W' 0 (fun b => decide (b < W.heap.size)) true f.params.toList args.toList (s.fn H (ds ++ gs)).args pa)
    (hvars : DataW.TrodVars enc P W' (fun b => decide (b < W.heap.size)) s.vars (s.fn H (ds ++ gs)).vars pv) :
    s.post enc P f apart fresh handsOn false W args v W' :=
  ⟨ds, gs, before, [], pa, pv, hW, hres _ _ _, hargs, hvars, hst.kept _, fun h => by cases h⟩

end Go.Ab
