/-
  No cell of these rows narrows 'for every input' (looked for: loops, veiled, ifaces, maps, wideKeys, modest, calm, conditions, laid).
  DERIVED. THE GIVEN ROWS OF THIS SEAT. 4 by the template 'for every input the law returns true; each argument reads behind the call as it read before'; 0 by the template 'total and deterministic' (their statements: YtpigcnpigebfnaaTotals.lean).
  GIVEN WITH THE SEED: the statements are not yours to turn. If you find one false, say at which input.
  Laid BY PROGRAM, IN A SANDBOX (cutbox-rows.mjs): the forced cells as the released guide's own fill.sh prints them over the translation dda8a6772f516182… (all of the seat's roots in one cut). By AI agents, Wed Nov 11 2026. No macro, syntax, notation, axiom, sorry.
-/
import Derived.Test.YtpigcnpigebfnaaChecked
import GoSem.Claim
import GoSem.ClaimJoined
import GoSem.ClaimMapViews
import Derived.JoinedTies
import Derived.KernelRfl
namespace Go.Proofs.Ytpigcnpigebfnaa
/- THE CELL 'sum', in the pinned program and in every row, IS THE sha256 OF THE DUMP (.gsa) THAT YtpigcnpigebfnaaProg.lean LOADS. Nothing in Lean hashes anything: it is a label: what it is worth is what the hold of that sum in a sandbox is worth. -/
noncomputable def Try.pinned : Pinned := { name := "ytpigcnpigebfnaa", sum := "dda8a6772f516182b10a9f88712be307e5f770d304b7da7067cc911963973a24", checked := Try.checked }
namespace Rows
def none {H : Type} : Left H := { results := [], args := [] }

/-- 'ostiarylaw25.TaskKnown': WHATEVER THE INPUT: true; the input reads as it did. -/
def taskKnownSpec : ChangeSpec := { name := "taskKnown", fn := fun _ => fun
  | [] => { results := [.lit (.bool true)], args := [] }
  | _ => none }
def taskKnownRow : OpenClaim := { program := "ytpigcnpigebfnaa", sum := "dda8a6772f516182b10a9f88712be307e5f770d304b7da7067cc911963973a24", func := "ostiary/ostiarylaw25.TaskKnown", spec := "taskKnown", unfollowed := true, recurses := true, apart := false }
def TaskKnownSaid : Prop := taskKnownRow.holds Try.pinned (OpenSpec.ofChange taskKnownSpec)

/-- ITS FALSE NEIGHBOUR: 'it returns false'. Refute it at one input. -/
def taskKnownWrong : ChangeSpec := { name := "taskKnown", fn := fun _ => fun
  | [] => { results := [.lit (.bool false)], args := [] }
  | _ => none }
def TaskKnownWrongFalsely : Prop := taskKnownRow.holds Try.pinned (OpenSpec.ofChange taskKnownWrong)

/-- 'ostiarylaw25.TaskFinds': WHATEVER THE INPUT: true; the input reads as it did. -/
def taskFindsSpec : ChangeSpec := { name := "taskFinds", fn := fun _ => fun
  | [d1, d2] => { results := [.lit (.bool true)], args := [d1, d2] }
  | _ => none }
def taskFindsRow : OpenClaim := { program := "ytpigcnpigebfnaa", sum := "dda8a6772f516182b10a9f88712be307e5f770d304b7da7067cc911963973a24", func := "ostiary/ostiarylaw25.TaskFinds", spec := "taskFinds", unfollowed := true, recurses := true, apart := false }
def TaskFindsSaid : Prop := taskFindsRow.holds Try.pinned (OpenSpec.ofChange taskFindsSpec)

/-- ITS FALSE NEIGHBOUR: 'it returns false'. Refute it at one input. -/
def taskFindsWrong : ChangeSpec := { name := "taskFinds", fn := fun _ => fun
  | [d1, d2] => { results := [.lit (.bool false)], args := [d1, d2] }
  | _ => none }
def TaskFindsWrongFalsely : Prop := taskFindsRow.holds Try.pinned (OpenSpec.ofChange taskFindsWrong)

/-- 'ostiarylaw25.TaskNone': WHATEVER THE INPUT: true; the input reads as it did. -/
def taskNoneSpec : ChangeSpec := { name := "taskNone", fn := fun _ => fun
  | [d] => { results := [.lit (.bool true)], args := [d] }
  | _ => none }
def taskNoneRow : OpenClaim := { program := "ytpigcnpigebfnaa", sum := "dda8a6772f516182b10a9f88712be307e5f770d304b7da7067cc911963973a24", func := "ostiary/ostiarylaw25.TaskNone", spec := "taskNone", unfollowed := true, recurses := true, apart := false }
def TaskNoneSaid : Prop := taskNoneRow.holds Try.pinned (OpenSpec.ofChange taskNoneSpec)

/-- ITS FALSE NEIGHBOUR: 'it returns false'. Refute it at one input. -/
def taskNoneWrong : ChangeSpec := { name := "taskNone", fn := fun _ => fun
  | [d] => { results := [.lit (.bool false)], args := [d] }
  | _ => none }
def TaskNoneWrongFalsely : Prop := taskNoneRow.holds Try.pinned (OpenSpec.ofChange taskNoneWrong)

/-- 'ostiarylaw25.TaskEnds': WHATEVER THE INPUT: true; the input reads as it did. -/
def taskEndsSpec : ChangeSpec := { name := "taskEnds", fn := fun _ => fun
  | [d1, d2, d3] => { results := [.lit (.bool true)], args := [d1, d2, d3] }
  | _ => none }
def taskEndsRow : OpenClaim := { program := "ytpigcnpigebfnaa", sum := "dda8a6772f516182b10a9f88712be307e5f770d304b7da7067cc911963973a24", func := "ostiary/ostiarylaw25.TaskEnds", spec := "taskEnds", unfollowed := true, recurses := true, apart := false }
def TaskEndsSaid : Prop := taskEndsRow.holds Try.pinned (OpenSpec.ofChange taskEndsSpec)

/-- ITS FALSE NEIGHBOUR: 'it returns false'. Refute it at one input. -/
def taskEndsWrong : ChangeSpec := { name := "taskEnds", fn := fun _ => fun
  | [d1, d2, d3] => { results := [.lit (.bool false)], args := [d1, d2, d3] }
  | _ => none }
def TaskEndsWrongFalsely : Prop := taskEndsRow.holds Try.pinned (OpenSpec.ofChange taskEndsWrong)

/- THE SECOND FORM. 'bulk': how many values and letters a reading holds, each counted each time it is reached (what is shared counts as often as it is met; a slice's spare places count too). A statement '..UptoSaid' is the law's where the arguments, and the package variables that the reading takes, are together of bulk at most 1048576: NARROWER than '..Said'. Prove '..Said' where nothing that the law and all that it calls make is longer than what came in: it says more and counts as full. Else prove '..UptoSaid'. A law counts once. -/
mutual
def uptoBulk {H : Type} : DataW H → Nat
  | .lit (.string bytes) => bytes.length + 1
  | .lit _ => 1
  | .nil => 1
  | .ptr d => uptoBulk d + 1
  | .slice elems spare => uptoBulkAll elems + uptoBulkAll spare + 1
  | .agg parts => uptoBulkAll parts + 1
  | .iface _ d => uptoBulk d + 1
  | .map entries => uptoBulkEntries entries + 1
  | .held _ => 1
def uptoBulkAll {H : Type} : List (DataW H) → Nat
  | [] => 0
  | d :: r => uptoBulk d + uptoBulkAll r
def uptoBulkEntries {H : Type} : List (Lit × DataW H) → Nat
  | [] => 0
  | x :: r => uptoBulkEntry x + uptoBulkEntries r
def uptoBulkEntry {H : Type} : Lit × DataW H → Nat
  | (.string bytes, d) => bytes.length + uptoBulk d + 1
  | (_, d) => uptoBulk d + 1
 end
def uptoSmall : (H : Type) → List (DataW H) → Bool := fun _ ds => decide (uptoBulkAll ds ≤ 1048576)
def OpenSpec.upto (s : _root_.Go.ChangeSpec) : _root_.Go.OpenSpec := { _root_.Go.OpenSpec.ofChange s with cond := some uptoSmall }

/-- 'ostiarylaw25.TaskKnown', WHERE WHAT IT READS IS OF BULK AT MOST 1048576: true; the input reads as it did. -/
def taskKnownUptoRow : OpenClaim := { program := "ytpigcnpigebfnaa", sum := "dda8a6772f516182b10a9f88712be307e5f770d304b7da7067cc911963973a24", func := "ostiary/ostiarylaw25.TaskKnown", spec := "taskKnown", unfollowed := true, recurses := true, apart := false, narrowed := true }
def TaskKnownUptoSaid : Prop := taskKnownUptoRow.holds Try.pinned (OpenSpec.upto taskKnownSpec)

/-- 'ostiarylaw25.TaskFinds', WHERE WHAT IT READS IS OF BULK AT MOST 1048576: true; the input reads as it did. -/
def taskFindsUptoRow : OpenClaim := { program := "ytpigcnpigebfnaa", sum := "dda8a6772f516182b10a9f88712be307e5f770d304b7da7067cc911963973a24", func := "ostiary/ostiarylaw25.TaskFinds", spec := "taskFinds", unfollowed := true, recurses := true, apart := false, narrowed := true }
def TaskFindsUptoSaid : Prop := taskFindsUptoRow.holds Try.pinned (OpenSpec.upto taskFindsSpec)

/-- 'ostiarylaw25.TaskNone', WHERE WHAT IT READS IS OF BULK AT MOST 1048576: true; the input reads as it did. -/
def taskNoneUptoRow : OpenClaim := { program := "ytpigcnpigebfnaa", sum := "dda8a6772f516182b10a9f88712be307e5f770d304b7da7067cc911963973a24", func := "ostiary/ostiarylaw25.TaskNone", spec := "taskNone", unfollowed := true, recurses := true, apart := false, narrowed := true }
def TaskNoneUptoSaid : Prop := taskNoneUptoRow.holds Try.pinned (OpenSpec.upto taskNoneSpec)

/-- 'ostiarylaw25.TaskEnds', WHERE WHAT IT READS IS OF BULK AT MOST 1048576: true; the input reads as it did. -/
def taskEndsUptoRow : OpenClaim := { program := "ytpigcnpigebfnaa", sum := "dda8a6772f516182b10a9f88712be307e5f770d304b7da7067cc911963973a24", func := "ostiary/ostiarylaw25.TaskEnds", spec := "taskEnds", unfollowed := true, recurses := true, apart := false, narrowed := true }
def TaskEndsUptoSaid : Prop := taskEndsUptoRow.holds Try.pinned (OpenSpec.upto taskEndsSpec)

end Rows
end Go.Proofs.Ytpigcnpigebfnaa
