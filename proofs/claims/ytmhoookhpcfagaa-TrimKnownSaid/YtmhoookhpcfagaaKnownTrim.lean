/- 'TrimKnown': the call returns true, and nothing that was there has turned. No conditions (it has no arguments). -/
import Derived.Test.YtmhoookhpcfagaaRows
import Derived.Test.YtmhoookhpcfagaaTrimFits
import Derived.ProofKit
namespace Go.Proofs.Ytmhoookhpcfagaa
open Go.ChangeShapes Go.WideShapes Go.ChangeAt Go.RowKit

theorem known_eval : retTrue (evT Try.prog 0 [ct_fits] 1000000 (.call 7 []) fs0) = true := by kernel_rfl
theorem known_knob : ownKnob Try.prog.godebug = none := by kernel_rfl

set_option maxRecDepth 100000 in
theorem known_lifted (os : Os) (started : os.Started) (H : Type) (enc : TypeId × Value → H) :
    ReturnsInHanded {} Try.checked os 7 .any (Rows.trimKnownSpec.pre6 enc Try.prog Try.f7 Rows.trimKnownRow.domain false) (Rows.trimKnownSpec.post enc Try.prog Try.f7 false true false false) := by
  refine returnsInHanded_of_change (C := Try.checked) known_knob started (by kernel_rfl) Try.func7
    (ChangeSpec.witness6 (enc := enc) (C := Try.checked) false ⟨#[], #[], []⟩ 8 (by kernel_rfl) (by kernel_rfl) (by kernel_rfl) (by kernel_rfl)) ?_
  intro W base args ds gs before hval0 hW hcnd _
  have hW' := hW
  obtain ⟨p, q, hA0, hV, rfl, hfz, hnd⟩ := hW
  have hA : DataW.TrodAll enc Try.prog W 0 (fun _ => true) true Try.f7.params.toList args.toList ds p := hA0
  rw [Try.params7] at hA
  obtain ⟨rfl, rfl, rfl⟩ := trodAll_none hA
  obtain ⟨rfl, rfl⟩ := trodVars_none hV
  refine (evT_true mixed [ct_fits] 1000000 7 known_eval W).mono fun e W' ⟨he, hb⟩ => ?_
  subst he
  exact ⟨_, rfl, _, _, _, [], [], [], hW', trodAll_mk1 (shut_bool Try.underlying4 true), trodAll_mk0, rfl, hb.frame _, fun h => by cases h⟩

theorem known_holds : Rows.TrimKnownSaid :=
  OpenClaim.holds_of_wide 7 Try.f7 rfl rfl rfl rfl rfl rfl rfl ⟨rfl, rfl, rfl, rfl, rfl⟩ rfl rfl rfl rfl rfl (by kernel_rfl) Try.func7 (by kernel_rfl)
    (of_decide_eq_true (by kernel_rfl)) (by unfold Func.isWrapper; first | (rw [if_pos (by decide +kernel)]; kernel_rfl) | (rw [if_neg (by decide +kernel)]; exact ⟨rfl, rfl⟩))
    (fun os started H enc _ => known_lifted os started H enc)

end Go.Proofs.Ytmhoookhpcfagaa
