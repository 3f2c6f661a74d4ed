/- DERIVED. The program's orders of evaluation. -/
import Derived.Test.YtcggcoijhdagnaaS6
import Derived.Test.YtcggcoijhdagnaaProg
namespace Go.Proofs.Ytcggcoijhdagnaa
open Go Go.RowKit
theorem mixed : Try.prog.follows .mixedOrders = true := by kernel_rfl
end Go.Proofs.Ytcggcoijhdagnaa
