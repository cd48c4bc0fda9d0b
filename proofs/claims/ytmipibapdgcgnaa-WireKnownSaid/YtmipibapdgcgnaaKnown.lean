/- 'almanaclaw03.WireKnown' answers true: for every input. No conditions. -/
import Derived.Test.YtmipibapdgcgnaaRows
import Derived.Test.YtmipibapdgcgnaaEnv
import Derived.Test.YtmipibapdgcgnaaAbClose
namespace Go.Proofs.Ytmipibapdgcgnaa
open Go.ChangeShapes Go.WideShapes Go.ChangeAt Go.RowKit Go.Ab

theorem known_run : ((runFn env 1000 50 7 [] ⟨2, .leaf⟩).map (·.1)) = some (.bool true) := by kernel_rfl

theorem knownWalk (w : World) : Calls Try.prog 7 #[] w fun e w' => e = .returned (.bool true) ∧ Stays w w' :=
  calls_known (E := env) env_ok rfl known_run w

theorem own : ownKnob Try.prog.godebug = none := by kernel_rfl

set_option maxRecDepth 100000 in
theorem lifted (os : Os) (started : os.Started) (H : Type) (enc : TypeId × Value → H) :
    ReturnsInHanded {} Try.checked os 7 .any (Rows.wireKnownSpec.pre6 enc Try.prog Try.f7 Rows.wireKnownRow.domain false) (Rows.wireKnownSpec.post enc Try.prog Try.f7 false true false false) := by
  refine returnsInHanded_of_change (C := Try.checked) own started (by kernel_rfl) Try.func7
    (ChangeSpec.witness6 (enc := enc) (C := Try.checked) false ⟨#[], #[], []⟩ 8 (by kernel_rfl) (by kernel_rfl) (by kernel_rfl) (by kernel_rfl)) ?_
  intro W base args ds gs before hval0 hW hcnd _
  have hW' := hW
  obtain ⟨p, q, hA0, hV, rfl, hfz, hnd⟩ := hW
  have hA : DataW.TrodAll enc Try.prog W 0 (fun _ => true) true Try.f7.params.toList args.toList ds p := hA0
  rw [Try.params7] at hA
  obtain ⟨rfl, rfl, rfl⟩ := trodAll_none hA
  obtain ⟨rfl, rfl⟩ := trodVars_none hV
  clear hA0 hval0
  refine (knownWalk W).mono fun e W' ⟨he, hg⟩ => ?_
  subst he
  exact ⟨_, rfl, post_of_stays (pa := []) (pv := []) hW' hg (fun b sp hd => trodAll_cons_mk (shut_bool Try.underlying4 _) trodAll_mk0) rfl rfl⟩

theorem over : Rows.wireKnownRow.holds Try.pinned (OpenSpec.ofChange Rows.wireKnownSpec) :=
  OpenClaim.holds_of_wide 7 Try.f7 rfl rfl rfl rfl rfl rfl rfl ⟨rfl, rfl, rfl, rfl, rfl⟩ rfl rfl rfl rfl rfl (by kernel_rfl) Try.func7 (by kernel_rfl)
    (of_decide_eq_true (by kernel_rfl)) (by unfold Func.isWrapper; first | (rw [if_pos (by decide +kernel)]; kernel_rfl) | (rw [if_neg (by decide +kernel)]; exact ⟨rfl, rfl⟩))
    (fun os started H enc _ => lifted os started H enc)

theorem proved : Rows.WireKnownSaid := over
#print axioms proved
end Go.Proofs.Ytmipibapdgcgnaa
