/-
  No cell of these rows narrows 'for every input' (looked for: loops, veiled, ifaces, maps, wideKeys, modest, calm, conditions, laid).
  DERIVED. THE GIVEN ROWS OF THIS SEAT. 7 by the template 'for every input the law returns true; each argument reads behind the call as it read before'; 0 by the template 'total and deterministic' (their statements: YtmpaeabkdhjamaaTotals.lean).
  GIVEN WITH THE SEED: the statements are not yours to turn. If you find one false, say at which input.
  Laid BY PROGRAM, IN A SANDBOX (cutbox-rows.mjs): the forced cells as the released guide's own fill.sh prints them over the translation 42aa7de2f7d6d4fa… (all of the seat's roots in one cut). By AI agents, Wed Nov 11 2026. No macro, syntax, notation, axiom, sorry.
-/
import Derived.Test.YtmpaeabkdhjamaaChecked
import GoSem.Claim
import GoSem.ClaimJoined
import GoSem.ClaimMapViews
import Derived.JoinedTies
import Derived.KernelRfl
namespace Go.Proofs.Ytmpaeabkdhjamaa
/- THE CELL 'sum', in the pinned program and in every row, IS THE sha256 OF THE DUMP (.gsa) THAT YtmpaeabkdhjamaaProg.lean LOADS. Nothing in Lean hashes anything: it is a label: what it is worth is what the hold of that sum in a sandbox is worth. -/
noncomputable def Try.pinned : Pinned := { name := "ytmpaeabkdhjamaa", sum := "42aa7de2f7d6d4fa1e2bbb3e02af03c61e61e0aedc24c27e37d98251b3e10e31", checked := Try.checked }
namespace Rows
def none {H : Type} : Left H := { results := [], args := [] }

/-- 'ostiarylaw07.RecChecks': WHATEVER THE INPUT: true; the input reads as it did. -/
def recChecksSpec : ChangeSpec := { name := "recChecks", fn := fun _ => fun
  | [d1, d2] => { results := [.lit (.bool true)], args := [d1, d2] }
  | _ => none }
def recChecksRow : OpenClaim := { program := "ytmpaeabkdhjamaa", sum := "42aa7de2f7d6d4fa1e2bbb3e02af03c61e61e0aedc24c27e37d98251b3e10e31", func := "ostiary/ostiarylaw07.RecChecks", spec := "recChecks", unfollowed := true, recurses := true, apart := false }
def RecChecksSaid : Prop := recChecksRow.holds Try.pinned (OpenSpec.ofChange recChecksSpec)

/-- ITS FALSE NEIGHBOUR: 'it returns false'. Refute it at one input. -/
def recChecksWrong : ChangeSpec := { name := "recChecks", fn := fun _ => fun
  | [d1, d2] => { results := [.lit (.bool false)], args := [d1, d2] }
  | _ => none }
def RecChecksWrongFalsely : Prop := recChecksRow.holds Try.pinned (OpenSpec.ofChange recChecksWrong)

/-- 'ostiarylaw07.RecSames': WHATEVER THE INPUT: true; the input reads as it did. -/
def recSamesSpec : ChangeSpec := { name := "recSames", fn := fun _ => fun
  | [d1, d2, d3, d4] => { results := [.lit (.bool true)], args := [d1, d2, d3, d4] }
  | _ => none }
def recSamesRow : OpenClaim := { program := "ytmpaeabkdhjamaa", sum := "42aa7de2f7d6d4fa1e2bbb3e02af03c61e61e0aedc24c27e37d98251b3e10e31", func := "ostiary/ostiarylaw07.RecSames", spec := "recSames", unfollowed := true, recurses := true, apart := false }
def RecSamesSaid : Prop := recSamesRow.holds Try.pinned (OpenSpec.ofChange recSamesSpec)

/-- ITS FALSE NEIGHBOUR: 'it returns false'. Refute it at one input. -/
def recSamesWrong : ChangeSpec := { name := "recSames", fn := fun _ => fun
  | [d1, d2, d3, d4] => { results := [.lit (.bool false)], args := [d1, d2, d3, d4] }
  | _ => none }
def RecSamesWrongFalsely : Prop := recSamesRow.holds Try.pinned (OpenSpec.ofChange recSamesWrong)

/-- 'ostiarylaw07.RecWrites': WHATEVER THE INPUT: true; the input reads as it did. -/
def recWritesSpec : ChangeSpec := { name := "recWrites", fn := fun _ => fun
  | [d] => { results := [.lit (.bool true)], args := [d] }
  | _ => none }
def recWritesRow : OpenClaim := { program := "ytmpaeabkdhjamaa", sum := "42aa7de2f7d6d4fa1e2bbb3e02af03c61e61e0aedc24c27e37d98251b3e10e31", func := "ostiary/ostiarylaw07.RecWrites", spec := "recWrites", unfollowed := true, recurses := true, apart := false }
def RecWritesSaid : Prop := recWritesRow.holds Try.pinned (OpenSpec.ofChange recWritesSpec)

/-- ITS FALSE NEIGHBOUR: 'it returns false'. Refute it at one input. -/
def recWritesWrong : ChangeSpec := { name := "recWrites", fn := fun _ => fun
  | [d] => { results := [.lit (.bool false)], args := [d] }
  | _ => none }
def RecWritesWrongFalsely : Prop := recWritesRow.holds Try.pinned (OpenSpec.ofChange recWritesWrong)

/-- 'ostiarylaw07.RecReads': WHATEVER THE INPUT: true; the input reads as it did. -/
def recReadsSpec : ChangeSpec := { name := "recReads", fn := fun _ => fun
  | [d1, d2] => { results := [.lit (.bool true)], args := [d1, d2] }
  | _ => none }
def recReadsRow : OpenClaim := { program := "ytmpaeabkdhjamaa", sum := "42aa7de2f7d6d4fa1e2bbb3e02af03c61e61e0aedc24c27e37d98251b3e10e31", func := "ostiary/ostiarylaw07.RecReads", spec := "recReads", unfollowed := true, recurses := true, apart := false }
def RecReadsSaid : Prop := recReadsRow.holds Try.pinned (OpenSpec.ofChange recReadsSpec)

/-- ITS FALSE NEIGHBOUR: 'it returns false'. Refute it at one input. -/
def recReadsWrong : ChangeSpec := { name := "recReads", fn := fun _ => fun
  | [d1, d2] => { results := [.lit (.bool false)], args := [d1, d2] }
  | _ => none }
def RecReadsWrongFalsely : Prop := recReadsRow.holds Try.pinned (OpenSpec.ofChange recReadsWrong)

/-- 'ostiarylaw07.RecReadsOnly': WHATEVER THE INPUT: true; the input reads as it did. -/
def recReadsOnlySpec : ChangeSpec := { name := "recReadsOnly", fn := fun _ => fun
  | [d1, d2] => { results := [.lit (.bool true)], args := [d1, d2] }
  | _ => none }
def recReadsOnlyRow : OpenClaim := { program := "ytmpaeabkdhjamaa", sum := "42aa7de2f7d6d4fa1e2bbb3e02af03c61e61e0aedc24c27e37d98251b3e10e31", func := "ostiary/ostiarylaw07.RecReadsOnly", spec := "recReadsOnly", unfollowed := true, recurses := true, apart := false }
def RecReadsOnlySaid : Prop := recReadsOnlyRow.holds Try.pinned (OpenSpec.ofChange recReadsOnlySpec)

/-- ITS FALSE NEIGHBOUR: 'it returns false'. Refute it at one input. -/
def recReadsOnlyWrong : ChangeSpec := { name := "recReadsOnly", fn := fun _ => fun
  | [d1, d2] => { results := [.lit (.bool false)], args := [d1, d2] }
  | _ => none }
def RecReadsOnlyWrongFalsely : Prop := recReadsOnlyRow.holds Try.pinned (OpenSpec.ofChange recReadsOnlyWrong)

/-- 'ostiarylaw07.RecKnown': WHATEVER THE INPUT: true; the input reads as it did. -/
def recKnownSpec : ChangeSpec := { name := "recKnown", fn := fun _ => fun
  | [] => { results := [.lit (.bool true)], args := [] }
  | _ => none }
def recKnownRow : OpenClaim := { program := "ytmpaeabkdhjamaa", sum := "42aa7de2f7d6d4fa1e2bbb3e02af03c61e61e0aedc24c27e37d98251b3e10e31", func := "ostiary/ostiarylaw07.RecKnown", spec := "recKnown", unfollowed := true, recurses := true, apart := false }
def RecKnownSaid : Prop := recKnownRow.holds Try.pinned (OpenSpec.ofChange recKnownSpec)

/-- ITS FALSE NEIGHBOUR: 'it returns false'. Refute it at one input. -/
def recKnownWrong : ChangeSpec := { name := "recKnown", fn := fun _ => fun
  | [] => { results := [.lit (.bool false)], args := [] }
  | _ => none }
def RecKnownWrongFalsely : Prop := recKnownRow.holds Try.pinned (OpenSpec.ofChange recKnownWrong)

/-- 'ostiarylaw07.RecBack': WHATEVER THE INPUT: true; the input reads as it did. -/
def recBackSpec : ChangeSpec := { name := "recBack", fn := fun _ => fun
  | [d1, d2] => { results := [.lit (.bool true)], args := [d1, d2] }
  | _ => none }
def recBackRow : OpenClaim := { program := "ytmpaeabkdhjamaa", sum := "42aa7de2f7d6d4fa1e2bbb3e02af03c61e61e0aedc24c27e37d98251b3e10e31", func := "ostiary/ostiarylaw07.RecBack", spec := "recBack", unfollowed := true, recurses := true, apart := false }
def RecBackSaid : Prop := recBackRow.holds Try.pinned (OpenSpec.ofChange recBackSpec)

/-- ITS FALSE NEIGHBOUR: 'it returns false'. Refute it at one input. -/
def recBackWrong : ChangeSpec := { name := "recBack", fn := fun _ => fun
  | [d1, d2] => { results := [.lit (.bool false)], args := [d1, d2] }
  | _ => none }
def RecBackWrongFalsely : Prop := recBackRow.holds Try.pinned (OpenSpec.ofChange recBackWrong)

/- THE SECOND FORM. 'bulk': how many values and letters a reading holds, each counted each time it is reached (what is shared counts as often as it is met; a slice's spare places count too). A statement '..UptoSaid' is the law's where the arguments, and the package variables that the reading takes, are together of bulk at most 1048576: NARROWER than '..Said'. Prove '..Said' where nothing that the law and all that it calls make is longer than what came in: it says more and counts as full. Else prove '..UptoSaid'. A law counts once. -/
mutual
def uptoBulk {H : Type} : DataW H → Nat
  | .lit (.string bytes) => bytes.length + 1
  | .lit _ => 1
  | .nil => 1
  | .ptr d => uptoBulk d + 1
  | .slice elems spare => uptoBulkAll elems + uptoBulkAll spare + 1
  | .agg parts => uptoBulkAll parts + 1
  | .iface _ d => uptoBulk d + 1
  | .map entries => uptoBulkEntries entries + 1
  | .held _ => 1
def uptoBulkAll {H : Type} : List (DataW H) → Nat
  | [] => 0
  | d :: r => uptoBulk d + uptoBulkAll r
def uptoBulkEntries {H : Type} : List (Lit × DataW H) → Nat
  | [] => 0
  | x :: r => uptoBulkEntry x + uptoBulkEntries r
def uptoBulkEntry {H : Type} : Lit × DataW H → Nat
  | (.string bytes, d) => bytes.length + uptoBulk d + 1
  | (_, d) => uptoBulk d + 1
 end
def uptoSmall : (H : Type) → List (DataW H) → Bool := fun _ ds => decide (uptoBulkAll ds ≤ 1048576)
def OpenSpec.upto (s : _root_.Go.ChangeSpec) : _root_.Go.OpenSpec := { _root_.Go.OpenSpec.ofChange s with cond := some uptoSmall }

/-- 'ostiarylaw07.RecChecks', WHERE WHAT IT READS IS OF BULK AT MOST 1048576: true; the input reads as it did. -/
def recChecksUptoRow : OpenClaim := { program := "ytmpaeabkdhjamaa", sum := "42aa7de2f7d6d4fa1e2bbb3e02af03c61e61e0aedc24c27e37d98251b3e10e31", func := "ostiary/ostiarylaw07.RecChecks", spec := "recChecks", unfollowed := true, recurses := true, apart := false, narrowed := true }
def RecChecksUptoSaid : Prop := recChecksUptoRow.holds Try.pinned (OpenSpec.upto recChecksSpec)

/-- 'ostiarylaw07.RecSames', WHERE WHAT IT READS IS OF BULK AT MOST 1048576: true; the input reads as it did. -/
def recSamesUptoRow : OpenClaim := { program := "ytmpaeabkdhjamaa", sum := "42aa7de2f7d6d4fa1e2bbb3e02af03c61e61e0aedc24c27e37d98251b3e10e31", func := "ostiary/ostiarylaw07.RecSames", spec := "recSames", unfollowed := true, recurses := true, apart := false, narrowed := true }
def RecSamesUptoSaid : Prop := recSamesUptoRow.holds Try.pinned (OpenSpec.upto recSamesSpec)

/-- 'ostiarylaw07.RecWrites', WHERE WHAT IT READS IS OF BULK AT MOST 1048576: true; the input reads as it did. -/
def recWritesUptoRow : OpenClaim := { program := "ytmpaeabkdhjamaa", sum := "42aa7de2f7d6d4fa1e2bbb3e02af03c61e61e0aedc24c27e37d98251b3e10e31", func := "ostiary/ostiarylaw07.RecWrites", spec := "recWrites", unfollowed := true, recurses := true, apart := false, narrowed := true }
def RecWritesUptoSaid : Prop := recWritesUptoRow.holds Try.pinned (OpenSpec.upto recWritesSpec)

/-- 'ostiarylaw07.RecReads', WHERE WHAT IT READS IS OF BULK AT MOST 1048576: true; the input reads as it did. -/
def recReadsUptoRow : OpenClaim := { program := "ytmpaeabkdhjamaa", sum := "42aa7de2f7d6d4fa1e2bbb3e02af03c61e61e0aedc24c27e37d98251b3e10e31", func := "ostiary/ostiarylaw07.RecReads", spec := "recReads", unfollowed := true, recurses := true, apart := false, narrowed := true }
def RecReadsUptoSaid : Prop := recReadsUptoRow.holds Try.pinned (OpenSpec.upto recReadsSpec)

/-- 'ostiarylaw07.RecReadsOnly', WHERE WHAT IT READS IS OF BULK AT MOST 1048576: true; the input reads as it did. -/
def recReadsOnlyUptoRow : OpenClaim := { program := "ytmpaeabkdhjamaa", sum := "42aa7de2f7d6d4fa1e2bbb3e02af03c61e61e0aedc24c27e37d98251b3e10e31", func := "ostiary/ostiarylaw07.RecReadsOnly", spec := "recReadsOnly", unfollowed := true, recurses := true, apart := false, narrowed := true }
def RecReadsOnlyUptoSaid : Prop := recReadsOnlyUptoRow.holds Try.pinned (OpenSpec.upto recReadsOnlySpec)

/-- 'ostiarylaw07.RecKnown', WHERE WHAT IT READS IS OF BULK AT MOST 1048576: true; the input reads as it did. -/
def recKnownUptoRow : OpenClaim := { program := "ytmpaeabkdhjamaa", sum := "42aa7de2f7d6d4fa1e2bbb3e02af03c61e61e0aedc24c27e37d98251b3e10e31", func := "ostiary/ostiarylaw07.RecKnown", spec := "recKnown", unfollowed := true, recurses := true, apart := false, narrowed := true }
def RecKnownUptoSaid : Prop := recKnownUptoRow.holds Try.pinned (OpenSpec.upto recKnownSpec)

/-- 'ostiarylaw07.RecBack', WHERE WHAT IT READS IS OF BULK AT MOST 1048576: true; the input reads as it did. -/
def recBackUptoRow : OpenClaim := { program := "ytmpaeabkdhjamaa", sum := "42aa7de2f7d6d4fa1e2bbb3e02af03c61e61e0aedc24c27e37d98251b3e10e31", func := "ostiary/ostiarylaw07.RecBack", spec := "recBack", unfollowed := true, recurses := true, apart := false, narrowed := true }
def RecBackUptoSaid : Prop := recBackUptoRow.holds Try.pinned (OpenSpec.upto recBackSpec)

end Rows
end Go.Proofs.Ytmpaeabkdhjamaa
