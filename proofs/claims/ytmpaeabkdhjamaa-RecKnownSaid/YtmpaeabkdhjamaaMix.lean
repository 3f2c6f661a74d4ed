/- DERIVED. The program's orders of evaluation. -/
import Derived.Test.YtmpaeabkdhjamaaS6
import Derived.Test.YtmpaeabkdhjamaaProg
namespace Go.Proofs.Ytmpaeabkdhjamaa
open Go Go.RowKit
theorem mixed : Try.prog.follows .mixedOrders = true := by kernel_rfl
end Go.Proofs.Ytmpaeabkdhjamaa
