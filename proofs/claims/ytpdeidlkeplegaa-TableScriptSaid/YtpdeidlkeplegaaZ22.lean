/- DERIVED. Texts put together: A3, A5. -/
import Derived.Test.YtpdeidlkeplegaaZ17
import Derived.Test.YtpdeidlkeplegaaZ21
set_option maxRecDepth 1000000
set_option maxHeartbeats 32000000
namespace Go.Proofs.Ytpdeidlkeplegaa
open Go Go.Joins Go.ChangeShapes Go.WideShapes Go.RowKit Go.Deep
section
variable {H : Type} {enc : TypeId × Value → H} {w : World} {base : Nat} {spare : Nat → Bool} {held : Bool}
end
end Go.Proofs.Ytpdeidlkeplegaa
namespace Go.Proofs.Ytpdeidlkeplegaa
open Go Go.RowKit
end Go.Proofs.Ytpdeidlkeplegaa
