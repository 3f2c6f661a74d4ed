/- DERIVED. The chapter's calls of 'fits', each evaluated by itself; a contract that knows them. -/
import Derived.Test.YtmhoookhpcfagaaInts
namespace Go.Proofs.Ytmhoookhpcfagaa
open Go Go.RowKit

theorem fits_a : retTrue (evT Try.prog 0 ([] : List (Ct Try.prog 0)) 1000000 (.call 27 [.int .i64 46, .int .i64 46, .int .i64 0]) fs0) = true := by kernel_rfl
theorem fits_b : retTrue (evT Try.prog 0 ([] : List (Ct Try.prog 0)) 1000000 (.call 27 [.int .i64 45, .int .i64 30, .int .i64 1]) fs0) = true := by kernel_rfl
theorem fits_c : retTrue (evT Try.prog 0 ([] : List (Ct Try.prog 0)) 1000000 (.call 27 [.int .i64 29, .int .i64 19, .int .i64 2]) fs0) = true := by kernel_rfl
theorem fits_d : retTrue (evT Try.prog 0 ([] : List (Ct Try.prog 0)) 1000000 (.call 27 [.int .i64 18, .int .i64 12, .int .i64 3]) fs0) = true := by kernel_rfl

def isFits (x y z : Int) : Bool := (decide (x = 46) && decide (y = 46) && decide (z = 0)) || (decide (x = 45) && decide (y = 30) && decide (z = 1)) || (decide (x = 29) && decide (y = 19) && decide (z = 2)) || (decide (x = 18) && decide (y = 12) && decide (z = 3))
theorem fits_calls {x y z : Int} (h : isFits x y z = true) (w : World) : Calls Try.prog 27 #[.int .i64 x, .int .i64 y, .int .i64 z] w fun e w' => e = .returned (.bool true) ∧ Below w.heap.size w w' := by
  simp only [isFits, Bool.or_eq_true, Bool.and_eq_true, decide_eq_true_eq] at h
  rcases h with ((⟨⟨rfl, rfl⟩, rfl⟩ | ⟨⟨rfl, rfl⟩, rfl⟩) | ⟨⟨rfl, rfl⟩, rfl⟩) | ⟨⟨rfl, rfl⟩, rfl⟩
  · exact calls_of_true rfl (evT_ok mixed [] 1000000 _ _) fits_a w
  · exact calls_of_true rfl (evT_ok mixed [] 1000000 _ _) fits_b w
  · exact calls_of_true rfl (evT_ok mixed [] 1000000 _ _) fits_c w
  · exact calls_of_true rfl (evT_ok mixed [] 1000000 _ _) fits_d w

def ct_fits : Ct Try.prog 0 where
  f := 27
  res l H n := match l with | [.int .i64 x, .int .i64 y, .int .i64 z] => bif isFits x y z then .ret (.bool true) H n [] else .bad "fits" [] | _ => .bad "fits" []
  ok l H n := by
    split
    · rename_i x y z
      cases h : isFits x y z with
      | false => trivial
      | true => exact callOK_calls (fun w => fits_calls h w) rfl rfl H n
    · trivial
  ck l H n K := match l with | [.int .i64 x, .int .i64 y, .int .i64 z] => isFits x y z = true ∧ K (.ret (.bool true) H n []) | _ => False
  imp l H n K h := by
    split at h
    · obtain ⟨h1, h2⟩ := h
      simp only [h1, cond_true]; exact h2
    · exact h.elim
end Go.Proofs.Ytmhoookhpcfagaa
