/- DERIVED. The program's orders of evaluation. -/
import Derived.Test.YtpdeidlkeplegaaS6
import Derived.Test.YtpdeidlkeplegaaProg
namespace Go.Proofs.Ytpdeidlkeplegaa
open Go Go.RowKit
theorem mixed : Try.prog.follows .mixedOrders = true := by kernel_rfl
end Go.Proofs.Ytpdeidlkeplegaa
