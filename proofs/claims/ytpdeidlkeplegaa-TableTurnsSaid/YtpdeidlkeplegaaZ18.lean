/- DERIVED. Texts put together: Base. -/
import Derived.BigQuiet
import Derived.Deep.LoopGhost
import Derived.Deep.QuietTactic
import Derived.Handy
import Derived.Lib.Hide
import Derived.WalkKit
import Derived.WalkLawsBesides
import Derived.WalkSpells
set_option maxRecDepth 1000000
set_option maxHeartbeats 32000000
namespace Go.Proofs.Ytpdeidlkeplegaa
open Go.RowKit
abbrev Bs := List UInt8
def bt (l : Bs) (k : Nat) : Nat := (l.getD k 0).toNat
theorem bt_lt (l : Bs) (k : Nat) : bt l k < 256 := UInt8.toNat_lt _
theorem wrap_bt (l : Bs) (k : Nat) : wrap64 (bt l k : Int) = (bt l k : Int) := by
 have := bt_lt l k
 exact IntWalk.wrap64_in _ (by omega)
abbrev str (l : Bs) : Value := .string ⟨l.toArray⟩
def room : Nat := 100000000000
theorem zAl (b o j : Nat) : (⟨b, o, none⟩ : Addr).add j = ⟨b, o + j, none⟩ := by unfold Addr.add; split <;> simp_all
def Halt_ (p : Prop) : Prop := p
theorem halt {p : Prop} (h : Halt_ p) : p := h
end Go.Proofs.Ytpdeidlkeplegaa
