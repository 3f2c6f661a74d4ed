/- DERIVED. Texts put together: Range. -/
import Derived.LoopIn
import Derived.LoopNIn
import Derived.Maps.AppendAt
import Derived.OwnWalkIn
import Derived.RangeFuncBound
import Derived.RangeFuncBox
import Derived.RangeFuncCalls
import Derived.RangeFuncLeaves
import Derived.RangeFuncNested
import Derived.RegionIn
import Derived.Shelf.Abstract
import Derived.Shelf.RegionOpen
import Derived.Sort.LoopGhostIn
import Derived.Stop.RegionWithIn
import Derived.TacticsInMore
import Derived.WalkKit
import Derived.Test.YtknpgjeclmadkaaZ1
set_option maxRecDepth 1000000
set_option maxHeartbeats 32000000
namespace Go.Proofs.Ytknpgjeclmadkaa
open Go.RowKit
section
variable {F : Fence} {n : Nat} {P : Program}
def OwnX {β : Type} (B : Nat) (X : Nat → Prop) (I : β → World → Prop) : Prop :=
 ∀ s W W' row, I s W → W.grownBy W' row → (∀ r, row = some r → (B ≤ r ∧ ∃ o : Obj, W.heap[r]? = some o ∧ o.isCells = false) ∨ X r) → I s W'
theorem OwnX.putObj {β : Type} {B : Nat} {X : Nat → Prop} {I : β → World → Prop} (h : OwnX B X I) {s : β} {W : World} {l : Nat} {o : Obj} (o' : Obj) (hs : I s W) (hB : B ≤ l) (hl : W.heap[l]? = some o) (ho : o.isCells = false) : I s (W.putObj l o') :=
 h s W _ _ hs (grownBy_putObj' W l o') (fun r e => .inl (by cases e; exact ⟨hB, o, hl, ho⟩))
theorem OwnX.alloc {β : Type} {B : Nat} {X : Nat → Prop} {I : β → World → Prop} (h : OwnX B X I) {s : β} {W : World} (o : Obj) (hs : I s W) : I s (W.alloc o) :=
 h s W _ none hs (World.grownBy_alloc W o none) (fun r e => by cases e)
end
end Go.Proofs.Ytknpgjeclmadkaa
