/- 'TableScript': whatever the arguments, the call returns true, and nothing that was there has turned. No conditions. -/
import Derived.ChangeMaps5
import Derived.ProofKit
import Derived.Test.YtpdeidlkeplegaaRows
import Derived.Test.YtpdeidlkeplegaaZ23
import Derived.Test.YtpdeidlkeplegaaZ24
set_option maxRecDepth 1000000
set_option maxHeartbeats 32000000
namespace Go.Proofs.Ytpdeidlkeplegaa
open Go.ChangeShapes Go.WideShapes Go.ChangeAt Go.RowKit
theorem law_knob : ownKnob Try.prog.godebug = none := by kernel_rfl
theorem law_laid : laidOutB Try.prog = true := by kernel_rfl
theorem law_rows : (Try.f4.params.toList.all fun t => Try.prog.readableRec t && decide (t < Try.prog.types.size)) = true := by kernel_rfl
theorem law_pos : Nat.blt Try.prog.globals.size (begin Try.prog (fun _ _ => 0) default).world.heap.size = true := by kernel_rfl
theorem law_lifted (os : Os) (started : os.Started) (H : Type) (enc : TypeId × Value → H) :
  ReturnsInHanded {} Try.checked os 4 .any (Rows.tableScriptSpec.pre6 enc Try.prog Try.f4 Rows.tableScriptRow.domain false) (Rows.tableScriptSpec.post enc Try.prog Try.f4 false true false false) := by
 refine returnsInHanded_of_change_shaped (C := Try.checked) law_knob started (by kernel_rfl) Try.func4
  (ChangeSpec.witness6 (enc := enc) (C := Try.checked) false ⟨#[], #[.int .i64 0, .slice none 0 0, .int .i64 0], []⟩ 8 (by kernel_rfl) (by kernel_rfl) (by kernel_rfl) (by kernel_rfl)) ?_
 intro W base args ds gs before hval0 hW hcnd hwt hshape _
 have hpos := pos_of_shaped hshape law_pos
 have hval : ∀ (j : Nat) t v, Try.f4.params[j]? = some t → args[j]? = some v → Value.okWide Try.prog W .any base t v := hval0
 have hW' := hW
 obtain ⟨p, q, hA0, hV, rfl, hfz, hnd⟩ := hW
 have hA : DataW.TrodAll enc Try.prog W 0 (fun _ => true) true Try.f4.params.toList args.toList ds p := hA0
 have hkeep : ∀ W' : World, Below W.heap.size W W' → DataW.TrodAll enc Try.prog W' 0 (fun b => decide (b < W.heap.size)) true Try.f4.params.toList args.toList ds p := fun W' hb => trodAll_below law_laid hb _ _ _ _ law_rows hA
 rw [Try.params4] at hA hval
 obtain ⟨v0, v1, v2, d0, d1, d2, p0, p1, p2, rfl, rfl, rfl, h0, h1, h2⟩ := trodAll_three hA
 obtain ⟨x0, rfl, rfl, rfl, w0⟩ := open_int Try.underlying3 (hval 0 3 v0 rfl rfl) h0
 obtain ⟨l1, hl1, hr1⟩ := open_actsC hpos (hval 1 33 v1 rfl rfl) h1 (weigh hwt (j := 1) rfl rfl)
 obtain ⟨x2, rfl, rfl, rfl, w2⟩ := open_int Try.underlying3 (hval 2 3 v2 rfl rfl) h2
 obtain ⟨rfl, rfl⟩ := trodVars_none hV
 clear hA0 hval0
 have hmx : maxLen = 9223372036854775807 := by decide
 obtain ⟨_, hF, H', m', wr, rfl⟩ := (script_fn x0 l1 x2 hl1)
 refine (calls_of_clos hF hpos (w := W) (.cons _ _ _ _ (.int _ _) (.cons _ _ _ _ hr1 (.cons _ _ _ _ (.int _ _) .nil)))).mono fun e W' ⟨he, hb⟩ => ?_
 subst he
 exact ⟨_, rfl, _, _, _, [], _, [], hW', trodAll_mk1 (shut_bool Try.underlying4 true), hkeep W' hb, rfl, hb.frame _, fun h => by cases h⟩
theorem law_holds : Rows.TableScriptSaid :=
 OpenClaim.holds_of_wide 4 Try.f4 rfl rfl rfl rfl rfl rfl rfl ⟨rfl, rfl, rfl, rfl, rfl⟩ rfl rfl rfl rfl rfl (by kernel_rfl) Try.func4 (by kernel_rfl)
  (of_decide_eq_true (by kernel_rfl)) (by unfold Func.isWrapper; first | (rw [if_pos (by decide +kernel)]; kernel_rfl) | (rw [if_neg (by decide +kernel)]; exact ⟨rfl, rfl⟩))
  (fun os started H enc _ => law_lifted os started H enc)
end Go.Proofs.Ytpdeidlkeplegaa
