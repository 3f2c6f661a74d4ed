/- DERIVED. The program's orders of evaluation. -/
import Derived.Test.YtmhoookhpcfagaaS6
import Derived.Test.YtmhoookhpcfagaaProg
namespace Go.Proofs.Ytmhoookhpcfagaa
open Go Go.RowKit
theorem mixed : Try.prog.follows .mixedOrders = true := by kernel_rfl
end Go.Proofs.Ytmhoookhpcfagaa
