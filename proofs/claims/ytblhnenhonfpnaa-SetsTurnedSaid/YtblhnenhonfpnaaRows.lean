/-
  No cell of these rows narrows 'for every input' (looked for: loops, veiled, ifaces, maps, wideKeys, modest, calm, conditions, laid).
  DERIVED. THE GIVEN ROWS OF THIS SEAT. 7 by the template 'for every input the law returns true; each argument reads behind the call as it read before'; 0 by the template 'total and deterministic' (their statements: YtblhnenhonfpnaaTotals.lean).
  GIVEN WITH THE SEED: the statements are not yours to turn. If you find one false, say at which input.
  Laid BY PROGRAM, IN A SANDBOX (cutbox-rows.mjs): the forced cells as the released guide's own fill.sh prints them over the translation 0023fb5c95aa95b4… (all of the seat's roots in one cut). By AI agents, Wed Nov 11 2026. No macro, syntax, notation, axiom, sorry.
-/
import Derived.Test.YtblhnenhonfpnaaChecked
import GoSem.Claim
import GoSem.ClaimJoined
import GoSem.ClaimMapViews
import Derived.JoinedTies
import Derived.KernelRfl
namespace Go.Proofs.Ytblhnenhonfpnaa
/- THE CELL 'sum', in the pinned program and in every row, IS THE sha256 OF THE DUMP (.gsa) THAT YtblhnenhonfpnaaProg.lean LOADS. Nothing in Lean hashes anything: it is a label: what it is worth is what the hold of that sum in a sandbox is worth. -/
noncomputable def Try.pinned : Pinned := { name := "ytblhnenhonfpnaa", sum := "0023fb5c95aa95b486dd0ae6b5371fbd27027a3b12bc4b663af85ae5a6db0102", checked := Try.checked }
namespace Rows
def none {H : Type} : Left H := { results := [], args := [] }

/-- 'ostiarylaw22.SetsGroups': WHATEVER THE INPUT: true; the input reads as it did. -/
def setsGroupsSpec : ChangeSpec := { name := "setsGroups", fn := fun _ => fun
  | [d] => { results := [.lit (.bool true)], args := [d] }
  | _ => none }
def setsGroupsRow : OpenClaim := { program := "ytblhnenhonfpnaa", sum := "0023fb5c95aa95b486dd0ae6b5371fbd27027a3b12bc4b663af85ae5a6db0102", func := "ostiary/ostiarylaw22.SetsGroups", spec := "setsGroups", unfollowed := true, recurses := true, plainKeys := false, apart := false }
def SetsGroupsSaid : Prop := setsGroupsRow.holds Try.pinned (OpenSpec.ofChange setsGroupsSpec)

/-- ITS FALSE NEIGHBOUR: 'it returns false'. Refute it at one input. -/
def setsGroupsWrong : ChangeSpec := { name := "setsGroups", fn := fun _ => fun
  | [d] => { results := [.lit (.bool false)], args := [d] }
  | _ => none }
def SetsGroupsWrongFalsely : Prop := setsGroupsRow.holds Try.pinned (OpenSpec.ofChange setsGroupsWrong)

/-- 'ostiarylaw22.SetsBetter': WHATEVER THE INPUT: true; the input reads as it did. -/
def setsBetterSpec : ChangeSpec := { name := "setsBetter", fn := fun _ => fun
  | [d1, d2, d3] => { results := [.lit (.bool true)], args := [d1, d2, d3] }
  | _ => none }
def setsBetterRow : OpenClaim := { program := "ytblhnenhonfpnaa", sum := "0023fb5c95aa95b486dd0ae6b5371fbd27027a3b12bc4b663af85ae5a6db0102", func := "ostiary/ostiarylaw22.SetsBetter", spec := "setsBetter", unfollowed := true, recurses := true, plainKeys := false, apart := false }
def SetsBetterSaid : Prop := setsBetterRow.holds Try.pinned (OpenSpec.ofChange setsBetterSpec)

/-- ITS FALSE NEIGHBOUR: 'it returns false'. Refute it at one input. -/
def setsBetterWrong : ChangeSpec := { name := "setsBetter", fn := fun _ => fun
  | [d1, d2, d3] => { results := [.lit (.bool false)], args := [d1, d2, d3] }
  | _ => none }
def SetsBetterWrongFalsely : Prop := setsBetterRow.holds Try.pinned (OpenSpec.ofChange setsBetterWrong)

/-- 'ostiarylaw22.SetsTurned': WHATEVER THE INPUT: true; the input reads as it did. -/
def setsTurnedSpec : ChangeSpec := { name := "setsTurned", fn := fun _ => fun
  | [d1, d2] => { results := [.lit (.bool true)], args := [d1, d2] }
  | _ => none }
def setsTurnedRow : OpenClaim := { program := "ytblhnenhonfpnaa", sum := "0023fb5c95aa95b486dd0ae6b5371fbd27027a3b12bc4b663af85ae5a6db0102", func := "ostiary/ostiarylaw22.SetsTurned", spec := "setsTurned", unfollowed := true, recurses := true, plainKeys := false, apart := false }
def SetsTurnedSaid : Prop := setsTurnedRow.holds Try.pinned (OpenSpec.ofChange setsTurnedSpec)

/-- ITS FALSE NEIGHBOUR: 'it returns false'. Refute it at one input. -/
def setsTurnedWrong : ChangeSpec := { name := "setsTurned", fn := fun _ => fun
  | [d1, d2] => { results := [.lit (.bool false)], args := [d1, d2] }
  | _ => none }
def SetsTurnedWrongFalsely : Prop := setsTurnedRow.holds Try.pinned (OpenSpec.ofChange setsTurnedWrong)

/-- 'ostiarylaw22.SetsKnown': WHATEVER THE INPUT: true; the input reads as it did. -/
def setsKnownSpec : ChangeSpec := { name := "setsKnown", fn := fun _ => fun
  | [] => { results := [.lit (.bool true)], args := [] }
  | _ => none }
def setsKnownRow : OpenClaim := { program := "ytblhnenhonfpnaa", sum := "0023fb5c95aa95b486dd0ae6b5371fbd27027a3b12bc4b663af85ae5a6db0102", func := "ostiary/ostiarylaw22.SetsKnown", spec := "setsKnown", unfollowed := true, recurses := true, plainKeys := false, apart := false }
def SetsKnownSaid : Prop := setsKnownRow.holds Try.pinned (OpenSpec.ofChange setsKnownSpec)

/-- ITS FALSE NEIGHBOUR: 'it returns false'. Refute it at one input. -/
def setsKnownWrong : ChangeSpec := { name := "setsKnown", fn := fun _ => fun
  | [] => { results := [.lit (.bool false)], args := [] }
  | _ => none }
def SetsKnownWrongFalsely : Prop := setsKnownRow.holds Try.pinned (OpenSpec.ofChange setsKnownWrong)

/-- 'ostiarylaw22.SetsOrder': WHATEVER THE INPUT: true; the input reads as it did. -/
def setsOrderSpec : ChangeSpec := { name := "setsOrder", fn := fun _ => fun
  | [d1, d2, d3] => { results := [.lit (.bool true)], args := [d1, d2, d3] }
  | _ => none }
def setsOrderRow : OpenClaim := { program := "ytblhnenhonfpnaa", sum := "0023fb5c95aa95b486dd0ae6b5371fbd27027a3b12bc4b663af85ae5a6db0102", func := "ostiary/ostiarylaw22.SetsOrder", spec := "setsOrder", unfollowed := true, recurses := true, plainKeys := false, apart := false }
def SetsOrderSaid : Prop := setsOrderRow.holds Try.pinned (OpenSpec.ofChange setsOrderSpec)

/-- ITS FALSE NEIGHBOUR: 'it returns false'. Refute it at one input. -/
def setsOrderWrong : ChangeSpec := { name := "setsOrder", fn := fun _ => fun
  | [d1, d2, d3] => { results := [.lit (.bool false)], args := [d1, d2, d3] }
  | _ => none }
def SetsOrderWrongFalsely : Prop := setsOrderRow.holds Try.pinned (OpenSpec.ofChange setsOrderWrong)

/-- 'ostiarylaw22.SetsTells': WHATEVER THE INPUT: true; the input reads as it did. -/
def setsTellsSpec : ChangeSpec := { name := "setsTells", fn := fun _ => fun
  | [d1, d2, d3] => { results := [.lit (.bool true)], args := [d1, d2, d3] }
  | _ => none }
def setsTellsRow : OpenClaim := { program := "ytblhnenhonfpnaa", sum := "0023fb5c95aa95b486dd0ae6b5371fbd27027a3b12bc4b663af85ae5a6db0102", func := "ostiary/ostiarylaw22.SetsTells", spec := "setsTells", unfollowed := true, recurses := true, plainKeys := false, apart := false }
def SetsTellsSaid : Prop := setsTellsRow.holds Try.pinned (OpenSpec.ofChange setsTellsSpec)

/-- ITS FALSE NEIGHBOUR: 'it returns false'. Refute it at one input. -/
def setsTellsWrong : ChangeSpec := { name := "setsTells", fn := fun _ => fun
  | [d1, d2, d3] => { results := [.lit (.bool false)], args := [d1, d2, d3] }
  | _ => none }
def SetsTellsWrongFalsely : Prop := setsTellsRow.holds Try.pinned (OpenSpec.ofChange setsTellsWrong)

/-- 'ostiarylaw22.SetsParts': WHATEVER THE INPUT: true; the input reads as it did. -/
def setsPartsSpec : ChangeSpec := { name := "setsParts", fn := fun _ => fun
  | [d] => { results := [.lit (.bool true)], args := [d] }
  | _ => none }
def setsPartsRow : OpenClaim := { program := "ytblhnenhonfpnaa", sum := "0023fb5c95aa95b486dd0ae6b5371fbd27027a3b12bc4b663af85ae5a6db0102", func := "ostiary/ostiarylaw22.SetsParts", spec := "setsParts", unfollowed := true, recurses := true, plainKeys := false, apart := false }
def SetsPartsSaid : Prop := setsPartsRow.holds Try.pinned (OpenSpec.ofChange setsPartsSpec)

/-- ITS FALSE NEIGHBOUR: 'it returns false'. Refute it at one input. -/
def setsPartsWrong : ChangeSpec := { name := "setsParts", fn := fun _ => fun
  | [d] => { results := [.lit (.bool false)], args := [d] }
  | _ => none }
def SetsPartsWrongFalsely : Prop := setsPartsRow.holds Try.pinned (OpenSpec.ofChange setsPartsWrong)

/- THE SECOND FORM. 'bulk': how many values and letters a reading holds, each counted each time it is reached (what is shared counts as often as it is met; a slice's spare places count too). A statement '..UptoSaid' is the law's where the arguments, and the package variables that the reading takes, are together of bulk at most 1048576: NARROWER than '..Said'. Prove '..Said' where nothing that the law and all that it calls make is longer than what came in: it says more and counts as full. Else prove '..UptoSaid'. A law counts once. -/
mutual
def uptoBulk {H : Type} : DataW H → Nat
  | .lit (.string bytes) => bytes.length + 1
  | .lit _ => 1
  | .nil => 1
  | .ptr d => uptoBulk d + 1
  | .slice elems spare => uptoBulkAll elems + uptoBulkAll spare + 1
  | .agg parts => uptoBulkAll parts + 1
  | .iface _ d => uptoBulk d + 1
  | .map entries => uptoBulkEntries entries + 1
  | .held _ => 1
def uptoBulkAll {H : Type} : List (DataW H) → Nat
  | [] => 0
  | d :: r => uptoBulk d + uptoBulkAll r
def uptoBulkEntries {H : Type} : List (Lit × DataW H) → Nat
  | [] => 0
  | x :: r => uptoBulkEntry x + uptoBulkEntries r
def uptoBulkEntry {H : Type} : Lit × DataW H → Nat
  | (.string bytes, d) => bytes.length + uptoBulk d + 1
  | (_, d) => uptoBulk d + 1
 end
def uptoSmall : (H : Type) → List (DataW H) → Bool := fun _ ds => decide (uptoBulkAll ds ≤ 1048576)
def OpenSpec.upto (s : _root_.Go.ChangeSpec) : _root_.Go.OpenSpec := { _root_.Go.OpenSpec.ofChange s with cond := some uptoSmall }

/-- 'ostiarylaw22.SetsGroups', WHERE WHAT IT READS IS OF BULK AT MOST 1048576: true; the input reads as it did. -/
def setsGroupsUptoRow : OpenClaim := { program := "ytblhnenhonfpnaa", sum := "0023fb5c95aa95b486dd0ae6b5371fbd27027a3b12bc4b663af85ae5a6db0102", func := "ostiary/ostiarylaw22.SetsGroups", spec := "setsGroups", unfollowed := true, recurses := true, plainKeys := false, apart := false, narrowed := true }
def SetsGroupsUptoSaid : Prop := setsGroupsUptoRow.holds Try.pinned (OpenSpec.upto setsGroupsSpec)

/-- 'ostiarylaw22.SetsBetter', WHERE WHAT IT READS IS OF BULK AT MOST 1048576: true; the input reads as it did. -/
def setsBetterUptoRow : OpenClaim := { program := "ytblhnenhonfpnaa", sum := "0023fb5c95aa95b486dd0ae6b5371fbd27027a3b12bc4b663af85ae5a6db0102", func := "ostiary/ostiarylaw22.SetsBetter", spec := "setsBetter", unfollowed := true, recurses := true, plainKeys := false, apart := false, narrowed := true }
def SetsBetterUptoSaid : Prop := setsBetterUptoRow.holds Try.pinned (OpenSpec.upto setsBetterSpec)

/-- 'ostiarylaw22.SetsTurned', WHERE WHAT IT READS IS OF BULK AT MOST 1048576: true; the input reads as it did. -/
def setsTurnedUptoRow : OpenClaim := { program := "ytblhnenhonfpnaa", sum := "0023fb5c95aa95b486dd0ae6b5371fbd27027a3b12bc4b663af85ae5a6db0102", func := "ostiary/ostiarylaw22.SetsTurned", spec := "setsTurned", unfollowed := true, recurses := true, plainKeys := false, apart := false, narrowed := true }
def SetsTurnedUptoSaid : Prop := setsTurnedUptoRow.holds Try.pinned (OpenSpec.upto setsTurnedSpec)

/-- 'ostiarylaw22.SetsKnown', WHERE WHAT IT READS IS OF BULK AT MOST 1048576: true; the input reads as it did. -/
def setsKnownUptoRow : OpenClaim := { program := "ytblhnenhonfpnaa", sum := "0023fb5c95aa95b486dd0ae6b5371fbd27027a3b12bc4b663af85ae5a6db0102", func := "ostiary/ostiarylaw22.SetsKnown", spec := "setsKnown", unfollowed := true, recurses := true, plainKeys := false, apart := false, narrowed := true }
def SetsKnownUptoSaid : Prop := setsKnownUptoRow.holds Try.pinned (OpenSpec.upto setsKnownSpec)

/-- 'ostiarylaw22.SetsOrder', WHERE WHAT IT READS IS OF BULK AT MOST 1048576: true; the input reads as it did. -/
def setsOrderUptoRow : OpenClaim := { program := "ytblhnenhonfpnaa", sum := "0023fb5c95aa95b486dd0ae6b5371fbd27027a3b12bc4b663af85ae5a6db0102", func := "ostiary/ostiarylaw22.SetsOrder", spec := "setsOrder", unfollowed := true, recurses := true, plainKeys := false, apart := false, narrowed := true }
def SetsOrderUptoSaid : Prop := setsOrderUptoRow.holds Try.pinned (OpenSpec.upto setsOrderSpec)

/-- 'ostiarylaw22.SetsTells', WHERE WHAT IT READS IS OF BULK AT MOST 1048576: true; the input reads as it did. -/
def setsTellsUptoRow : OpenClaim := { program := "ytblhnenhonfpnaa", sum := "0023fb5c95aa95b486dd0ae6b5371fbd27027a3b12bc4b663af85ae5a6db0102", func := "ostiary/ostiarylaw22.SetsTells", spec := "setsTells", unfollowed := true, recurses := true, plainKeys := false, apart := false, narrowed := true }
def SetsTellsUptoSaid : Prop := setsTellsUptoRow.holds Try.pinned (OpenSpec.upto setsTellsSpec)

/-- 'ostiarylaw22.SetsParts', WHERE WHAT IT READS IS OF BULK AT MOST 1048576: true; the input reads as it did. -/
def setsPartsUptoRow : OpenClaim := { program := "ytblhnenhonfpnaa", sum := "0023fb5c95aa95b486dd0ae6b5371fbd27027a3b12bc4b663af85ae5a6db0102", func := "ostiary/ostiarylaw22.SetsParts", spec := "setsParts", unfollowed := true, recurses := true, plainKeys := false, apart := false, narrowed := true }
def SetsPartsUptoSaid : Prop := setsPartsUptoRow.holds Try.pinned (OpenSpec.upto setsPartsSpec)

end Rows
end Go.Proofs.Ytblhnenhonfpnaa
