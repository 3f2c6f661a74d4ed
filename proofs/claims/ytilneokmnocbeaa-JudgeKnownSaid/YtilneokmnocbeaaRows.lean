/-
  No cell of these rows narrows 'for every input' (looked for: loops, veiled, ifaces, maps, wideKeys, modest, calm, conditions, laid).
  DERIVED. THE GIVEN ROWS OF THIS SEAT. 5 by the template 'for every input the law returns true; each argument reads behind the call as it read before'; 0 by the template 'total and deterministic' (their statements: YtilneokmnocbeaaTotals.lean).
  GIVEN WITH THE SEED: the statements are not yours to turn. If you find one false, say at which input.
  Laid BY PROGRAM, IN A SANDBOX (cutbox-rows.mjs): the forced cells as the released guide's own fill.sh prints them over the translation 1ff7adf8ed2167d2… (all of the seat's roots in one cut). By AI agents, Wed Nov 11 2026. No macro, syntax, notation, axiom, sorry.
-/
import Derived.Test.YtilneokmnocbeaaChecked
import GoSem.Claim
import GoSem.ClaimJoined
import GoSem.ClaimMapViews
import Derived.JoinedTies
import Derived.KernelRfl
namespace Go.Proofs.Ytilneokmnocbeaa
/- THE CELL 'sum', in the pinned program and in every row, IS THE sha256 OF THE DUMP (.gsa) THAT YtilneokmnocbeaaProg.lean LOADS. Nothing in Lean hashes anything: it is a label: what it is worth is what the hold of that sum in a sandbox is worth. -/
noncomputable def Try.pinned : Pinned := { name := "ytilneokmnocbeaa", sum := "1ff7adf8ed2167d23c6dc4e7f95cc8b7e1b98bd2b56fb2f860747c2b41d611cf", checked := Try.checked }
namespace Rows
def none {H : Type} : Left H := { results := [], args := [] }

/-- 'ostiarylaw24.JudgePicks': WHATEVER THE INPUT: true; the input reads as it did. -/
def judgePicksSpec : ChangeSpec := { name := "judgePicks", fn := fun _ => fun
  | [d1, d2, d3] => { results := [.lit (.bool true)], args := [d1, d2, d3] }
  | _ => none }
def judgePicksRow : OpenClaim := { program := "ytilneokmnocbeaa", sum := "1ff7adf8ed2167d23c6dc4e7f95cc8b7e1b98bd2b56fb2f860747c2b41d611cf", func := "ostiary/ostiarylaw24.JudgePicks", spec := "judgePicks", unfollowed := true, recurses := true, plainKeys := false, apart := false }
def JudgePicksSaid : Prop := judgePicksRow.holds Try.pinned (OpenSpec.ofChange judgePicksSpec)

/-- ITS FALSE NEIGHBOUR: 'it returns false'. Refute it at one input. -/
def judgePicksWrong : ChangeSpec := { name := "judgePicks", fn := fun _ => fun
  | [d1, d2, d3] => { results := [.lit (.bool false)], args := [d1, d2, d3] }
  | _ => none }
def JudgePicksWrongFalsely : Prop := judgePicksRow.holds Try.pinned (OpenSpec.ofChange judgePicksWrong)

/-- 'ostiarylaw24.JudgeBelieves': WHATEVER THE INPUT: true; the input reads as it did. -/
def judgeBelievesSpec : ChangeSpec := { name := "judgeBelieves", fn := fun _ => fun
  | [d1, d2, d3] => { results := [.lit (.bool true)], args := [d1, d2, d3] }
  | _ => none }
def judgeBelievesRow : OpenClaim := { program := "ytilneokmnocbeaa", sum := "1ff7adf8ed2167d23c6dc4e7f95cc8b7e1b98bd2b56fb2f860747c2b41d611cf", func := "ostiary/ostiarylaw24.JudgeBelieves", spec := "judgeBelieves", unfollowed := true, recurses := true, plainKeys := false, apart := false }
def JudgeBelievesSaid : Prop := judgeBelievesRow.holds Try.pinned (OpenSpec.ofChange judgeBelievesSpec)

/-- ITS FALSE NEIGHBOUR: 'it returns false'. Refute it at one input. -/
def judgeBelievesWrong : ChangeSpec := { name := "judgeBelieves", fn := fun _ => fun
  | [d1, d2, d3] => { results := [.lit (.bool false)], args := [d1, d2, d3] }
  | _ => none }
def JudgeBelievesWrongFalsely : Prop := judgeBelievesRow.holds Try.pinned (OpenSpec.ofChange judgeBelievesWrong)

/-- 'ostiarylaw24.JudgeOutside': WHATEVER THE INPUT: true; the input reads as it did. -/
def judgeOutsideSpec : ChangeSpec := { name := "judgeOutside", fn := fun _ => fun
  | [d1, d2, d3, d4, d5] => { results := [.lit (.bool true)], args := [d1, d2, d3, d4, d5] }
  | _ => none }
def judgeOutsideRow : OpenClaim := { program := "ytilneokmnocbeaa", sum := "1ff7adf8ed2167d23c6dc4e7f95cc8b7e1b98bd2b56fb2f860747c2b41d611cf", func := "ostiary/ostiarylaw24.JudgeOutside", spec := "judgeOutside", unfollowed := true, recurses := true, plainKeys := false, apart := false }
def JudgeOutsideSaid : Prop := judgeOutsideRow.holds Try.pinned (OpenSpec.ofChange judgeOutsideSpec)

/-- ITS FALSE NEIGHBOUR: 'it returns false'. Refute it at one input. -/
def judgeOutsideWrong : ChangeSpec := { name := "judgeOutside", fn := fun _ => fun
  | [d1, d2, d3, d4, d5] => { results := [.lit (.bool false)], args := [d1, d2, d3, d4, d5] }
  | _ => none }
def JudgeOutsideWrongFalsely : Prop := judgeOutsideRow.holds Try.pinned (OpenSpec.ofChange judgeOutsideWrong)

/-- 'ostiarylaw24.JudgeFits': WHATEVER THE INPUT: true; the input reads as it did. -/
def judgeFitsSpec : ChangeSpec := { name := "judgeFits", fn := fun _ => fun
  | [d1, d2, d3, d4] => { results := [.lit (.bool true)], args := [d1, d2, d3, d4] }
  | _ => none }
def judgeFitsRow : OpenClaim := { program := "ytilneokmnocbeaa", sum := "1ff7adf8ed2167d23c6dc4e7f95cc8b7e1b98bd2b56fb2f860747c2b41d611cf", func := "ostiary/ostiarylaw24.JudgeFits", spec := "judgeFits", unfollowed := true, recurses := true, plainKeys := false, apart := false }
def JudgeFitsSaid : Prop := judgeFitsRow.holds Try.pinned (OpenSpec.ofChange judgeFitsSpec)

/-- ITS FALSE NEIGHBOUR: 'it returns false'. Refute it at one input. -/
def judgeFitsWrong : ChangeSpec := { name := "judgeFits", fn := fun _ => fun
  | [d1, d2, d3, d4] => { results := [.lit (.bool false)], args := [d1, d2, d3, d4] }
  | _ => none }
def JudgeFitsWrongFalsely : Prop := judgeFitsRow.holds Try.pinned (OpenSpec.ofChange judgeFitsWrong)

/-- 'ostiarylaw24.JudgeKnown': WHATEVER THE INPUT: true; the input reads as it did. -/
def judgeKnownSpec : ChangeSpec := { name := "judgeKnown", fn := fun _ => fun
  | [] => { results := [.lit (.bool true)], args := [] }
  | _ => none }
def judgeKnownRow : OpenClaim := { program := "ytilneokmnocbeaa", sum := "1ff7adf8ed2167d23c6dc4e7f95cc8b7e1b98bd2b56fb2f860747c2b41d611cf", func := "ostiary/ostiarylaw24.JudgeKnown", spec := "judgeKnown", unfollowed := true, recurses := true, plainKeys := false, apart := false }
def JudgeKnownSaid : Prop := judgeKnownRow.holds Try.pinned (OpenSpec.ofChange judgeKnownSpec)

/-- ITS FALSE NEIGHBOUR: 'it returns false'. Refute it at one input. -/
def judgeKnownWrong : ChangeSpec := { name := "judgeKnown", fn := fun _ => fun
  | [] => { results := [.lit (.bool false)], args := [] }
  | _ => none }
def JudgeKnownWrongFalsely : Prop := judgeKnownRow.holds Try.pinned (OpenSpec.ofChange judgeKnownWrong)

/- THE SECOND FORM. 'bulk': how many values and letters a reading holds, each counted each time it is reached (what is shared counts as often as it is met; a slice's spare places count too). A statement '..UptoSaid' is the law's where the arguments, and the package variables that the reading takes, are together of bulk at most 1048576: NARROWER than '..Said'. Prove '..Said' where nothing that the law and all that it calls make is longer than what came in: it says more and counts as full. Else prove '..UptoSaid'. A law counts once. -/
mutual
def uptoBulk {H : Type} : DataW H → Nat
  | .lit (.string bytes) => bytes.length + 1
  | .lit _ => 1
  | .nil => 1
  | .ptr d => uptoBulk d + 1
  | .slice elems spare => uptoBulkAll elems + uptoBulkAll spare + 1
  | .agg parts => uptoBulkAll parts + 1
  | .iface _ d => uptoBulk d + 1
  | .map entries => uptoBulkEntries entries + 1
  | .held _ => 1
def uptoBulkAll {H : Type} : List (DataW H) → Nat
  | [] => 0
  | d :: r => uptoBulk d + uptoBulkAll r
def uptoBulkEntries {H : Type} : List (Lit × DataW H) → Nat
  | [] => 0
  | x :: r => uptoBulkEntry x + uptoBulkEntries r
def uptoBulkEntry {H : Type} : Lit × DataW H → Nat
  | (.string bytes, d) => bytes.length + uptoBulk d + 1
  | (_, d) => uptoBulk d + 1
 end
def uptoSmall : (H : Type) → List (DataW H) → Bool := fun _ ds => decide (uptoBulkAll ds ≤ 1048576)
def OpenSpec.upto (s : _root_.Go.ChangeSpec) : _root_.Go.OpenSpec := { _root_.Go.OpenSpec.ofChange s with cond := some uptoSmall }

/-- 'ostiarylaw24.JudgePicks', WHERE WHAT IT READS IS OF BULK AT MOST 1048576: true; the input reads as it did. -/
def judgePicksUptoRow : OpenClaim := { program := "ytilneokmnocbeaa", sum := "1ff7adf8ed2167d23c6dc4e7f95cc8b7e1b98bd2b56fb2f860747c2b41d611cf", func := "ostiary/ostiarylaw24.JudgePicks", spec := "judgePicks", unfollowed := true, recurses := true, plainKeys := false, apart := false, narrowed := true }
def JudgePicksUptoSaid : Prop := judgePicksUptoRow.holds Try.pinned (OpenSpec.upto judgePicksSpec)

/-- 'ostiarylaw24.JudgeBelieves', WHERE WHAT IT READS IS OF BULK AT MOST 1048576: true; the input reads as it did. -/
def judgeBelievesUptoRow : OpenClaim := { program := "ytilneokmnocbeaa", sum := "1ff7adf8ed2167d23c6dc4e7f95cc8b7e1b98bd2b56fb2f860747c2b41d611cf", func := "ostiary/ostiarylaw24.JudgeBelieves", spec := "judgeBelieves", unfollowed := true, recurses := true, plainKeys := false, apart := false, narrowed := true }
def JudgeBelievesUptoSaid : Prop := judgeBelievesUptoRow.holds Try.pinned (OpenSpec.upto judgeBelievesSpec)

/-- 'ostiarylaw24.JudgeOutside', WHERE WHAT IT READS IS OF BULK AT MOST 1048576: true; the input reads as it did. -/
def judgeOutsideUptoRow : OpenClaim := { program := "ytilneokmnocbeaa", sum := "1ff7adf8ed2167d23c6dc4e7f95cc8b7e1b98bd2b56fb2f860747c2b41d611cf", func := "ostiary/ostiarylaw24.JudgeOutside", spec := "judgeOutside", unfollowed := true, recurses := true, plainKeys := false, apart := false, narrowed := true }
def JudgeOutsideUptoSaid : Prop := judgeOutsideUptoRow.holds Try.pinned (OpenSpec.upto judgeOutsideSpec)

/-- 'ostiarylaw24.JudgeFits', WHERE WHAT IT READS IS OF BULK AT MOST 1048576: true; the input reads as it did. -/
def judgeFitsUptoRow : OpenClaim := { program := "ytilneokmnocbeaa", sum := "1ff7adf8ed2167d23c6dc4e7f95cc8b7e1b98bd2b56fb2f860747c2b41d611cf", func := "ostiary/ostiarylaw24.JudgeFits", spec := "judgeFits", unfollowed := true, recurses := true, plainKeys := false, apart := false, narrowed := true }
def JudgeFitsUptoSaid : Prop := judgeFitsUptoRow.holds Try.pinned (OpenSpec.upto judgeFitsSpec)

/-- 'ostiarylaw24.JudgeKnown', WHERE WHAT IT READS IS OF BULK AT MOST 1048576: true; the input reads as it did. -/
def judgeKnownUptoRow : OpenClaim := { program := "ytilneokmnocbeaa", sum := "1ff7adf8ed2167d23c6dc4e7f95cc8b7e1b98bd2b56fb2f860747c2b41d611cf", func := "ostiary/ostiarylaw24.JudgeKnown", spec := "judgeKnown", unfollowed := true, recurses := true, plainKeys := false, apart := false, narrowed := true }
def JudgeKnownUptoSaid : Prop := judgeKnownUptoRow.holds Try.pinned (OpenSpec.upto judgeKnownSpec)

end Rows
end Go.Proofs.Ytilneokmnocbeaa
