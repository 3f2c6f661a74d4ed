/- DERIVED. Texts put together: A1, A2. -/
import Derived.Deep.Slices
import Derived.HandedShaped
import Derived.Test.YtpdeidlkeplegaaZ12
import Derived.Test.YtpdeidlkeplegaaZ16
set_option maxRecDepth 1000000
set_option maxHeartbeats 32000000
namespace Go.Proofs.Ytpdeidlkeplegaa
open Go Go.Joins Go.ChangeShapes Go.WideShapes Go.RowKit Go.Deep
structure Win where
 b : Nat
 off : Nat
 c : List Value
 z : Nat
instance : Inhabited Win := ⟨⟨0, 0, [], 0⟩⟩
section
variable {H : Type} {enc : TypeId × Value → H} {P : Program} {w : World} {base : Nat} {spare : Nat → Bool} {held : Bool}
end
section
variable {H : Type} {enc : TypeId × Value → H} {P : Program} {w : World} {base : Nat} {spare : Nat → Bool} {held : Bool}
end
theorem pos_of_shaped {P : Program} {W : World} (h : W.ShapedOpen P) (hk : Nat.blt P.globals.size (begin P (fun _ _ => 0) default).world.heap.size = true) : 0 < W.heap.size := by
 obtain ⟨o, _, h1, _⟩ := h.2 P.globals.size (Nat.le_refl _) (Nat.le_of_ble_eq_true hk)
 have := (Array.getElem?_eq_some_iff.1 h1).1
 omega
end Go.Proofs.Ytpdeidlkeplegaa
namespace Go.Proofs.Ytpdeidlkeplegaa
open Go Go.Joins Go.ChangeShapes Go.WideShapes Go.RowKit Go.Deep
section
variable {H : Type} {enc : TypeId × Value → H} {P : Program} {w : World} {base : Nat} {spare : Nat → Bool} {held : Bool}
end
end Go.Proofs.Ytpdeidlkeplegaa
