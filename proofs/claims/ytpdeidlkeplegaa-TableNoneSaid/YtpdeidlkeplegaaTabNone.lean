/- DERIVED. A table that is none answers nothing: evaluated, the numbers left open. -/
import Derived.Test.YtpdeidlkeplegaaInts
import Derived.Test.YtpdeidlkeplegaaSorted
namespace Go.Proofs.Ytpdeidlkeplegaa
open Go Go.RowKit
theorem law_eval (a b : Int) : retTrue (evT Try.prog 0 [ct_sorted] 100000 (.call 5 [.int .i64 a, .int .i64 b]) fs0) = true := by kernel_rfl
theorem law_calls (a b : Int) (w : World) : Calls Try.prog 5 #[.int .i64 a, .int .i64 b] w fun e w' => e = .returned (.bool true) ∧ Below w.heap.size w w' :=
  calls_of_true rfl (evT_ok mixed [ct_sorted] 100000 _ _) (law_eval a b) w
end Go.Proofs.Ytpdeidlkeplegaa
