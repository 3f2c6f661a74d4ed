/- 'RecBack': whatever the arguments, the call returns true, and nothing that was there has turned. No conditions. -/
import Derived.ChangeMaps5
import Derived.ProofKit
import Derived.Test.YtmpaeabkdhjamaaRows
import Derived.Test.YtmpaeabkdhjamaaZ18
import Derived.Test.YtmpaeabkdhjamaaZ20
import Derived.Test.YtmpaeabkdhjamaaZ21
set_option maxRecDepth 1000000
set_option maxHeartbeats 32000000
namespace Go.Proofs.Ytmpaeabkdhjamaa
open Go.ChangeShapes Go.WideShapes Go.ChangeAt Go.RowKit
theorem law_knob : ownKnob Try.prog.godebug = none := by kernel_rfl
theorem law_laid : laidOutB Try.prog = true := by kernel_rfl
theorem law_rows : (Try.f9.params.toList.all fun t => Try.prog.readableRec t && decide (t < Try.prog.types.size)) = true := by kernel_rfl
theorem law_pos : Nat.blt Try.prog.globals.size (begin Try.prog (fun _ _ => 0) default).world.heap.size = true := by kernel_rfl
theorem law_lifted (os : Os) (started : os.Started) (H : Type) (enc : TypeId × Value → H) :
  ReturnsInHanded {} Try.checked os 9 .any (Rows.recBackSpec.pre6 enc Try.prog Try.f9 Rows.recBackRow.domain false) (Rows.recBackSpec.post enc Try.prog Try.f9 false true false false) := by
 refine returnsInHanded_of_change_shaped (C := Try.checked) law_knob started (by kernel_rfl) Try.func9
  (ChangeSpec.witness6 (enc := enc) (C := Try.checked) false ⟨#[], #[.slice none 0 0, .slice none 0 0], []⟩ 8 (by kernel_rfl) (by kernel_rfl) (by kernel_rfl) (by kernel_rfl)) ?_
 intro W base args ds gs before hval0 hW hcnd _ hshape _
 have hpos := pos_of_shaped hshape law_pos
 have hval : ∀ (j : Nat) t v, Try.f9.params[j]? = some t → args[j]? = some v → Value.okWide Try.prog W .any base t v := hval0
 have hW' := hW
 obtain ⟨p, q, hA0, hV, rfl, hfz, hnd⟩ := hW
 have hA : DataW.TrodAll enc Try.prog W 0 (fun _ => true) true Try.f9.params.toList args.toList ds p := hA0
 have hkeep : ∀ W' : World, Below W.heap.size W W' → DataW.TrodAll enc Try.prog W' 0 (fun b => decide (b < W.heap.size)) true Try.f9.params.toList args.toList ds p := fun W' hb => trodAll_below law_laid hb _ _ _ _ law_rows hA
 rw [Try.params9] at hA hval
 obtain ⟨v0, v1, d0, d1, p0, p1, rfl, rfl, rfl, h0, h1⟩ := trodAll_two hA
 obtain ⟨y0, hg0, hr0⟩ := open_acts7 (hval 0 32 v0 rfl rfl) h0 hpos
 obtain ⟨l1, c1, b1, o1, hb1, hw1, hl1, hc1, hr1⟩ := open_bytes Try.underlying44 Try.underlying5 (by kernel_rfl) (hval 1 44 v1 rfl rfl) h1 hpos
 obtain ⟨rfl, rfl⟩ := trodVars_none hV
 clear hA0 hval0
 have hmx : maxLen = 9223372036854775807 := by decide
 obtain ⟨_, hF, H', m', wr, rfl, hwr⟩ := (back7_fnW y0 l1 c1 ⟨hl1, by omega⟩)
 refine (calls_of_wins (ws := [y0.win layA7, ⟨b1, o1, l1.map byV, 1⟩]) (d := 2) hF hwr (w := W) (by
  intro x hx
  simp only [List.mem_cons, List.not_mem_nil, or_false] at hx
  rcases hx with rfl | rfl
  ·exact hg0.ok
  ·exact ⟨hb1, hw1, byV_plain _⟩) (.cons _ _ _ _ (hr0 _ 0 (show 0 < _ by simp) rfl rfl) (.cons _ _ _ _ (hr1 _ 1 (show 1 < _ by simp) rfl rfl) .nil))).mono fun e W' ⟨he, hb⟩ => ?_
 subst he
 exact ⟨_, rfl, _, _, _, [], _, [], hW', trodAll_mk1 (shut_bool Try.underlying4 true), hkeep W' hb, rfl, hb.frame _, fun h => by cases h⟩
theorem law_holds : Rows.RecBackSaid :=
 OpenClaim.holds_of_wide 9 Try.f9 rfl rfl rfl rfl rfl rfl rfl ⟨rfl, rfl, rfl, rfl, rfl⟩ rfl rfl rfl rfl rfl (by kernel_rfl) Try.func9 (by kernel_rfl)
  (of_decide_eq_true (by kernel_rfl)) (by unfold Func.isWrapper; first | (rw [if_pos (by decide +kernel)]; kernel_rfl) | (rw [if_neg (by decide +kernel)]; exact ⟨rfl, rfl⟩))
  (fun os started H enc _ => law_lifted os started H enc)
end Go.Proofs.Ytmpaeabkdhjamaa
