/- DERIVED. Texts put together: A6, Ta0. -/
import Derived.SizedLaws
import Derived.Test.YtpdeidlkeplegaaZ12
import Derived.Test.YtpdeidlkeplegaaZ13
import Derived.Test.YtpdeidlkeplegaaZ22
set_option maxRecDepth 1000000
set_option maxHeartbeats 32000000
namespace Go.Proofs.Ytpdeidlkeplegaa
open Go Go.Joins Go.ChangeShapes Go.WideShapes Go.RowKit Go.Deep
section
variable {H : Type} {enc : TypeId × Value → H} {P : Program} {w : World} {base : Nat} {spare : Nat → Bool} {held : Bool}
end
section
variable {H : Type} {enc : TypeId × Value → H} {w : World} {base : Nat} {spare : Nat → Bool} {held : Bool}
end
end Go.Proofs.Ytpdeidlkeplegaa
namespace Go.Proofs.Ytpdeidlkeplegaa
open Go Go.Joins Go.ChangeShapes Go.WideShapes Go.RowKit Go.Deep
end Go.Proofs.Ytpdeidlkeplegaa
