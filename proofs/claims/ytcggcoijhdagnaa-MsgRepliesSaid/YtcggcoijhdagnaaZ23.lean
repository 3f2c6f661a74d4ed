/- 'MsgReplies': whatever the arguments, the call returns true, and nothing that was there has turned. No conditions. -/
import Derived.ChangeMaps5
import Derived.ProofKit
import Derived.Test.YtcggcoijhdagnaaRows
import Derived.Test.YtcggcoijhdagnaaZ15
import Derived.Test.YtcggcoijhdagnaaZ21
import Derived.Test.YtcggcoijhdagnaaZ22
/- 'MsgReplies': whatever the arguments, the call returns true, and nothing that was there has turned. No conditions. -/
namespace Go.Proofs.Ytcggcoijhdagnaa
open Go.ChangeShapes Go.WideShapes Go.ChangeAt Go.RowKit

theorem law_knob : ownKnob Try.prog.godebug = none := by kernel_rfl
theorem law_laid : laidOutB Try.prog = true := by kernel_rfl
theorem law_rows : (Try.f5.params.toList.all fun t => Try.prog.readableRec t && decide (t < Try.prog.types.size)) = true := by kernel_rfl
theorem law_pos : Nat.blt Try.prog.globals.size (begin Try.prog (fun _ _ => 0) default).world.heap.size = true := by kernel_rfl

set_option maxRecDepth 100000 in
theorem law_lifted (os : Os) (started : os.Started) (H : Type) (enc : TypeId × Value → H) :
    ReturnsInHanded {} Try.checked os 5 .any (Rows.msgRepliesSpec.pre6 enc Try.prog Try.f5 Rows.msgRepliesRow.domain false) (Rows.msgRepliesSpec.post enc Try.prog Try.f5 false true false false) := by
  refine returnsInHanded_of_change_shaped (C := Try.checked) law_knob started (by kernel_rfl) Try.func5
    (ChangeSpec.witness6 (enc := enc) (C := Try.checked) false ⟨#[], #[.agg #[.int .i64 0, .int .i64 0, .slice none 0 0, .slice none 0 0, .slice none 0 0, .slice none 0 0], .int .i64 0, .int .i64 0], []⟩ 8 (by kernel_rfl) (by kernel_rfl) (by kernel_rfl) (by kernel_rfl)) ?_
  intro W base args ds gs before hval0 hW hcnd hwt hshape _
  have hpos := pos_of_shaped hshape law_pos
  have hval : ∀ (j : Nat) t v, Try.f5.params[j]? = some t → args[j]? = some v → Value.okWide Try.prog W .any base t v := hval0
  have hW' := hW
  obtain ⟨p, q, hA0, hV, rfl, hfz, hnd⟩ := hW
  have hA : DataW.TrodAll enc Try.prog W 0 (fun _ => true) true Try.f5.params.toList args.toList ds p := hA0
  have hkeep : ∀ W' : World, Below W.heap.size W W' → DataW.TrodAll enc Try.prog W' 0 (fun b => decide (b < W.heap.size)) true Try.f5.params.toList args.toList ds p := fun W' hb => trodAll_below law_laid hb _ _ _ _ law_rows hA
  rw [Try.params5] at hA hval
  obtain ⟨v0, v1, v2, d0, d1, d2, p0, p1, p2, rfl, rfl, rfl, h0, h1, h2⟩ := trodAll_three hA
  obtain ⟨m0, hm0, hs0, hr0⟩ := open_msg2 hpos (hval 0 25 v0 rfl rfl) h0 (weigh hwt (j := 0) rfl rfl)
  obtain ⟨x1, rfl, rfl, rfl, w1⟩ := open_int Try.underlying3 (hval 1 3 v1 rfl rfl) h1
  obtain ⟨x2, rfl, rfl, rfl, w2⟩ := open_int Try.underlying3 (hval 2 3 v2 rfl rfl) h2
  obtain ⟨rfl, rfl⟩ := trodVars_none hV
  clear hA0 hval0
  have hmx : maxLen = 9223372036854775807 := by decide
  obtain ⟨_, hF, H', m', wr, rfl, hwr⟩ := (replies_fn m0.id m0.fl m0.q.c [] [] m0.q.l m0.an.c [] [] m0.an.l m0.ns.c [] [] m0.ns.l m0.ar.c [] [] m0.ar.l x1 x2 rfl rfl rfl rfl rfl rfl rfl rfl hs0.1 hs0.2.1 hs0.2.2.1 hs0.2.2.2)
  refine (calls_of_wins (ws := [m0.q.win layQ, m0.an.win layR, m0.ns.win layR, m0.ar.win layR]) (d := 3) hF hwr (w := W) (by
    intro x hx
    simp only [List.mem_cons, List.not_mem_nil, or_false] at hx
    rcases hx with rfl | rfl | rfl | rfl
    · exact hm0.1.ok
    · exact hm0.2.1.ok
    · exact hm0.2.2.1.ok
    · exact hm0.2.2.2.ok) (.cons _ _ _ _ (hr0 _ 0 ⟨⟨show 0 < _ by simp, rfl, rfl⟩, ⟨show 1 < _ by simp, rfl, rfl⟩, ⟨show 2 < _ by simp, rfl, rfl⟩, ⟨show 3 < _ by simp, rfl, rfl⟩⟩) (.cons _ _ _ _ (.int _ _) (.cons _ _ _ _ (.int _ _) .nil)))).mono fun e W' ⟨he, hb⟩ => ?_
  subst he
  exact ⟨_, rfl, _, _, _, [], _, [], hW', trodAll_mk1 (shut_bool Try.underlying4 true), hkeep W' hb, rfl, hb.frame _, fun h => by cases h⟩

theorem law_holds : Rows.MsgRepliesSaid :=
  OpenClaim.holds_of_wide 5 Try.f5 rfl rfl rfl rfl rfl rfl rfl ⟨rfl, rfl, rfl, rfl, rfl⟩ rfl rfl rfl rfl rfl (by kernel_rfl) Try.func5 (by kernel_rfl)
    (of_decide_eq_true (by kernel_rfl)) (by unfold Func.isWrapper; first | (rw [if_pos (by decide +kernel)]; kernel_rfl) | (rw [if_neg (by decide +kernel)]; exact ⟨rfl, rfl⟩))
    (fun os started H enc _ => law_lifted os started H enc)

end Go.Proofs.Ytcggcoijhdagnaa
