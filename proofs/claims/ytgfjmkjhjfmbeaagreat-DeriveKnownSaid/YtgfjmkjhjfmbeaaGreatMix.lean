/- DERIVED. The program's orders of evaluation. -/
import Derived.Test.YtgfjmkjhjfmbeaaGreatS6
import Derived.Test.YtgfjmkjhjfmbeaaGreatProg
namespace Go.Proofs.YtgfjmkjhjfmbeaaGreat
open Go Go.RowKit
theorem mixed : Tryz.prog.follows .mixedOrders = true := by kernel_rfl
end Go.Proofs.YtgfjmkjhjfmbeaaGreat
