/- 'CoreNone': whatever the arguments, the call returns true, and nothing that was there has turned. No conditions. -/
import Derived.ChangeMaps5
import Derived.ProofKit
import Derived.Test.YtjbcamcegnjnaaaGreatRows
import Derived.Test.YtjbcamcegnjnaaaGreatZ15
import Derived.Test.YtjbcamcegnjnaaaGreatZ19
import Derived.Test.YtjbcamcegnjnaaaGreatZ20
/- 'CoreNone': whatever the arguments, the call returns true, and nothing that was there has turned. No conditions. -/
namespace Go.Proofs.YtjbcamcegnjnaaaGreat
open Go.ChangeShapes Go.WideShapes Go.ChangeAt Go.RowKit

theorem law_knob : ownKnob Tryz.prog.godebug = none := by kernel_rfl
theorem law_laid : laidOutB Tryz.prog = true := by kernel_rfl
theorem law_rows : (Tryz.f7.params.toList.all fun t => Tryz.prog.readableRec t && decide (t < Tryz.prog.types.size)) = true := by kernel_rfl
theorem law_pos : Nat.blt Tryz.prog.globals.size (begin Tryz.prog (fun _ _ => 0) default).world.heap.size = true := by kernel_rfl

set_option maxRecDepth 100000 in
theorem law_lifted (os : Os) (started : os.Started) (H : Type) (enc : TypeId × Value → H) :
    ReturnsInHanded {} Tryz.checked os 7 .any (Rows.coreNoneSpec.pre6 enc Tryz.prog Tryz.f7 Rows.coreNoneRow.domain false) (Rows.coreNoneSpec.post enc Tryz.prog Tryz.f7 false true false false) := by
  refine returnsInHanded_of_change_shaped (C := Tryz.checked) law_knob started (by kernel_rfl) Tryz.func7
    (ChangeSpec.witness6 (enc := enc) (C := Tryz.checked) false ⟨#[], #[.agg #[.int .i64 0, .int .i64 0, .int .i64 0, .int .i64 0, .int .i64 0, .bool false, .string ⟨#[]⟩, .int .i64 0, .int .i64 0, .slice none 0 0, .slice none 0 0, .slice none 0 0, .slice none 0 0, .slice none 0 0]], []⟩ 8 (by kernel_rfl) (by kernel_rfl) (by kernel_rfl) (by kernel_rfl)) ?_
  intro W base args ds gs before hval0 hW hcnd _ hshape _
  have hpos := pos_of_shaped hshape law_pos
  have hval : ∀ (j : Nat) t v, Tryz.f7.params[j]? = some t → args[j]? = some v → Value.okWide Tryz.prog W .any base t v := hval0
  have hW' := hW
  obtain ⟨p, q, hA0, hV, rfl, hfz, hnd⟩ := hW
  have hA : DataW.TrodAll enc Tryz.prog W 0 (fun _ => true) true Tryz.f7.params.toList args.toList ds p := hA0
  have hkeep : ∀ W' : World, Below W.heap.size W W' → DataW.TrodAll enc Tryz.prog W' 0 (fun b => decide (b < W.heap.size)) true Tryz.f7.params.toList args.toList ds p := fun W' hb => trodAll_below law_laid hb _ _ _ _ law_rows hA
  rw [Tryz.params7] at hA hval
  obtain ⟨v0, d0, rfl, rfl, h0⟩ := trodAll_one hA
  obtain ⟨xk, xt, xi, xp, xy, xr, xn, m0, y0, hm0, hb0, hr0⟩ := open_act hpos (hval 0 75 v0 rfl rfl) h0
  obtain ⟨rfl, rfl⟩ := trodVars_none hV
  clear hA0 hval0
  have hmx : maxLen = 9223372036854775807 := by decide
  obtain ⟨_, hF, H', m', wr, rfl, hwr⟩ := (cnone_fn xk xt xi xp xy xr xn (m0.ms 0) ((y0.rd 0).cells (layB 5)) y0.l.length y0.c rfl rfl rfl rfl m0.at0 (hm0.fit 0))
  refine (calls_of_wins (ws := [m0.q.win layQ, m0.an.win layR, m0.ns.win layR, m0.ar.win layR, y0.win (layB 5)]) (d := 3) hF hwr (w := W) (by
    intro x hx
    simp only [List.mem_cons, List.not_mem_nil, or_false] at hx
    rcases hx with rfl | rfl | rfl | rfl | rfl
    · exact hm0.1.ok
    · exact hm0.2.1.ok
    · exact hm0.2.2.1.ok
    · exact hm0.2.2.2.ok
    · exact hb0.ok) (.cons _ _ _ _ (hr0 _ ⟨⟨show 0 < _ by simp, rfl, rfl⟩, ⟨show 1 < _ by simp, rfl, rfl⟩, ⟨show 2 < _ by simp, rfl, rfl⟩, ⟨show 3 < _ by simp, rfl, rfl⟩⟩ ⟨show 4 < _ by simp, rfl, rfl⟩) .nil)).mono fun e W' ⟨he, hb⟩ => ?_
  subst he
  exact ⟨_, rfl, _, _, _, [], _, [], hW', trodAll_mk1 (shut_bool Tryz.underlying4 true), hkeep W' hb, rfl, hb.frame _, fun h => by cases h⟩

theorem law_holds : Rows.CoreNoneSaid :=
  OpenClaim.holds_of_wide 7 Tryz.f7 rfl rfl rfl rfl rfl rfl rfl ⟨rfl, rfl, rfl, rfl, rfl⟩ rfl rfl rfl rfl rfl (by kernel_rfl) Tryz.func7 (by kernel_rfl)
    (of_decide_eq_true (by kernel_rfl)) (by unfold Func.isWrapper; first | (rw [if_pos (by decide +kernel)]; kernel_rfl) | (rw [if_neg (by decide +kernel)]; exact ⟨rfl, rfl⟩))
    (fun os started H enc _ => law_lifted os started H enc)

end Go.Proofs.YtjbcamcegnjnaaaGreat
