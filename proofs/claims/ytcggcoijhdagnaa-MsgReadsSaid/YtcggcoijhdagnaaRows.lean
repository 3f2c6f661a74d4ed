/-
  No cell of these rows narrows 'for every input' (looked for: loops, veiled, ifaces, maps, wideKeys, modest, calm, conditions, laid).
  DERIVED. THE GIVEN ROWS OF THIS SEAT. 7 by the template 'for every input the law returns true; each argument reads behind the call as it read before'; 0 by the template 'total and deterministic' (their statements: YtcggcoijhdagnaaTotals.lean).
  GIVEN WITH THE SEED: the statements are not yours to turn. If you find one false, say at which input.
  Laid BY PROGRAM, IN A SANDBOX (cutbox-rows.mjs): the forced cells as the released guide's own fill.sh prints them over the translation 669508195b8c0cc5… (all of the seat's roots in one cut). By AI agents, Wed Nov 11 2026. No macro, syntax, notation, axiom, sorry.
-/
import Derived.Test.YtcggcoijhdagnaaChecked
import GoSem.Claim
import GoSem.ClaimJoined
import GoSem.ClaimMapViews
import Derived.JoinedTies
import Derived.KernelRfl
namespace Go.Proofs.Ytcggcoijhdagnaa
/- THE CELL 'sum', in the pinned program and in every row, IS THE sha256 OF THE DUMP (.gsa) THAT YtcggcoijhdagnaaProg.lean LOADS. Nothing in Lean hashes anything: it is a label: what it is worth is what the hold of that sum in a sandbox is worth. -/
noncomputable def Try.pinned : Pinned := { name := "ytcggcoijhdagnaa", sum := "669508195b8c0cc59862b9350126290e7918e011f1706d3783791b7e7e5e7719", checked := Try.checked }
namespace Rows
def none {H : Type} : Left H := { results := [], args := [] }

/-- 'ostiarylaw08.MsgWrites': WHATEVER THE INPUT: true; the input reads as it did. -/
def msgWritesSpec : ChangeSpec := { name := "msgWrites", fn := fun _ => fun
  | [d] => { results := [.lit (.bool true)], args := [d] }
  | _ => none }
def msgWritesRow : OpenClaim := { program := "ytcggcoijhdagnaa", sum := "669508195b8c0cc59862b9350126290e7918e011f1706d3783791b7e7e5e7719", func := "ostiary/ostiarylaw08.MsgWrites", spec := "msgWrites", unfollowed := true, recurses := true, apart := false }
def MsgWritesSaid : Prop := msgWritesRow.holds Try.pinned (OpenSpec.ofChange msgWritesSpec)

/-- ITS FALSE NEIGHBOUR: 'it returns false'. Refute it at one input. -/
def msgWritesWrong : ChangeSpec := { name := "msgWrites", fn := fun _ => fun
  | [d] => { results := [.lit (.bool false)], args := [d] }
  | _ => none }
def MsgWritesWrongFalsely : Prop := msgWritesRow.holds Try.pinned (OpenSpec.ofChange msgWritesWrong)

/-- 'ostiarylaw08.MsgFlags': WHATEVER THE INPUT: true; the input reads as it did. -/
def msgFlagsSpec : ChangeSpec := { name := "msgFlags", fn := fun _ => fun
  | [d1, d2] => { results := [.lit (.bool true)], args := [d1, d2] }
  | _ => none }
def msgFlagsRow : OpenClaim := { program := "ytcggcoijhdagnaa", sum := "669508195b8c0cc59862b9350126290e7918e011f1706d3783791b7e7e5e7719", func := "ostiary/ostiarylaw08.MsgFlags", spec := "msgFlags", unfollowed := true, recurses := true, apart := false }
def MsgFlagsSaid : Prop := msgFlagsRow.holds Try.pinned (OpenSpec.ofChange msgFlagsSpec)

/-- ITS FALSE NEIGHBOUR: 'it returns false'. Refute it at one input. -/
def msgFlagsWrong : ChangeSpec := { name := "msgFlags", fn := fun _ => fun
  | [d1, d2] => { results := [.lit (.bool false)], args := [d1, d2] }
  | _ => none }
def MsgFlagsWrongFalsely : Prop := msgFlagsRow.holds Try.pinned (OpenSpec.ofChange msgFlagsWrong)

/-- 'ostiarylaw08.MsgReplies': WHATEVER THE INPUT: true; the input reads as it did. -/
def msgRepliesSpec : ChangeSpec := { name := "msgReplies", fn := fun _ => fun
  | [d1, d2, d3] => { results := [.lit (.bool true)], args := [d1, d2, d3] }
  | _ => none }
def msgRepliesRow : OpenClaim := { program := "ytcggcoijhdagnaa", sum := "669508195b8c0cc59862b9350126290e7918e011f1706d3783791b7e7e5e7719", func := "ostiary/ostiarylaw08.MsgReplies", spec := "msgReplies", unfollowed := true, recurses := true, apart := false }
def MsgRepliesSaid : Prop := msgRepliesRow.holds Try.pinned (OpenSpec.ofChange msgRepliesSpec)

/-- ITS FALSE NEIGHBOUR: 'it returns false'. Refute it at one input. -/
def msgRepliesWrong : ChangeSpec := { name := "msgReplies", fn := fun _ => fun
  | [d1, d2, d3] => { results := [.lit (.bool false)], args := [d1, d2, d3] }
  | _ => none }
def MsgRepliesWrongFalsely : Prop := msgRepliesRow.holds Try.pinned (OpenSpec.ofChange msgRepliesWrong)

/-- 'ostiarylaw08.MsgReply': WHATEVER THE INPUT: true; the input reads as it did. -/
def msgReplySpec : ChangeSpec := { name := "msgReply", fn := fun _ => fun
  | [d1, d2] => { results := [.lit (.bool true)], args := [d1, d2] }
  | _ => none }
def msgReplyRow : OpenClaim := { program := "ytcggcoijhdagnaa", sum := "669508195b8c0cc59862b9350126290e7918e011f1706d3783791b7e7e5e7719", func := "ostiary/ostiarylaw08.MsgReply", spec := "msgReply", unfollowed := true, recurses := true, apart := false }
def MsgReplySaid : Prop := msgReplyRow.holds Try.pinned (OpenSpec.ofChange msgReplySpec)

/-- ITS FALSE NEIGHBOUR: 'it returns false'. Refute it at one input. -/
def msgReplyWrong : ChangeSpec := { name := "msgReply", fn := fun _ => fun
  | [d1, d2] => { results := [.lit (.bool false)], args := [d1, d2] }
  | _ => none }
def MsgReplyWrongFalsely : Prop := msgReplyRow.holds Try.pinned (OpenSpec.ofChange msgReplyWrong)

/-- 'ostiarylaw08.MsgReads': WHATEVER THE INPUT: true; the input reads as it did. -/
def msgReadsSpec : ChangeSpec := { name := "msgReads", fn := fun _ => fun
  | [d] => { results := [.lit (.bool true)], args := [d] }
  | _ => none }
def msgReadsRow : OpenClaim := { program := "ytcggcoijhdagnaa", sum := "669508195b8c0cc59862b9350126290e7918e011f1706d3783791b7e7e5e7719", func := "ostiary/ostiarylaw08.MsgReads", spec := "msgReads", unfollowed := true, recurses := true, apart := false }
def MsgReadsSaid : Prop := msgReadsRow.holds Try.pinned (OpenSpec.ofChange msgReadsSpec)

/-- ITS FALSE NEIGHBOUR: 'it returns false'. Refute it at one input. -/
def msgReadsWrong : ChangeSpec := { name := "msgReads", fn := fun _ => fun
  | [d] => { results := [.lit (.bool false)], args := [d] }
  | _ => none }
def MsgReadsWrongFalsely : Prop := msgReadsRow.holds Try.pinned (OpenSpec.ofChange msgReadsWrong)

/-- 'ostiarylaw08.MsgBack': WHATEVER THE INPUT: true; the input reads as it did. -/
def msgBackSpec : ChangeSpec := { name := "msgBack", fn := fun _ => fun
  | [d1, d2, d3, d4] => { results := [.lit (.bool true)], args := [d1, d2, d3, d4] }
  | _ => none }
def msgBackRow : OpenClaim := { program := "ytcggcoijhdagnaa", sum := "669508195b8c0cc59862b9350126290e7918e011f1706d3783791b7e7e5e7719", func := "ostiary/ostiarylaw08.MsgBack", spec := "msgBack", unfollowed := true, recurses := true, apart := false }
def MsgBackSaid : Prop := msgBackRow.holds Try.pinned (OpenSpec.ofChange msgBackSpec)

/-- ITS FALSE NEIGHBOUR: 'it returns false'. Refute it at one input. -/
def msgBackWrong : ChangeSpec := { name := "msgBack", fn := fun _ => fun
  | [d1, d2, d3, d4] => { results := [.lit (.bool false)], args := [d1, d2, d3, d4] }
  | _ => none }
def MsgBackWrongFalsely : Prop := msgBackRow.holds Try.pinned (OpenSpec.ofChange msgBackWrong)

/-- 'ostiarylaw08.MsgKnown': WHATEVER THE INPUT: true; the input reads as it did. -/
def msgKnownSpec : ChangeSpec := { name := "msgKnown", fn := fun _ => fun
  | [] => { results := [.lit (.bool true)], args := [] }
  | _ => none }
def msgKnownRow : OpenClaim := { program := "ytcggcoijhdagnaa", sum := "669508195b8c0cc59862b9350126290e7918e011f1706d3783791b7e7e5e7719", func := "ostiary/ostiarylaw08.MsgKnown", spec := "msgKnown", unfollowed := true, recurses := true, apart := false }
def MsgKnownSaid : Prop := msgKnownRow.holds Try.pinned (OpenSpec.ofChange msgKnownSpec)

/-- ITS FALSE NEIGHBOUR: 'it returns false'. Refute it at one input. -/
def msgKnownWrong : ChangeSpec := { name := "msgKnown", fn := fun _ => fun
  | [] => { results := [.lit (.bool false)], args := [] }
  | _ => none }
def MsgKnownWrongFalsely : Prop := msgKnownRow.holds Try.pinned (OpenSpec.ofChange msgKnownWrong)

/- THE SECOND FORM. 'bulk': how many values and letters a reading holds, each counted each time it is reached (what is shared counts as often as it is met; a slice's spare places count too). A statement '..UptoSaid' is the law's where the arguments, and the package variables that the reading takes, are together of bulk at most 1048576: NARROWER than '..Said'. Prove '..Said' where nothing that the law and all that it calls make is longer than what came in: it says more and counts as full. Else prove '..UptoSaid'. A law counts once. -/
mutual
def uptoBulk {H : Type} : DataW H → Nat
  | .lit (.string bytes) => bytes.length + 1
  | .lit _ => 1
  | .nil => 1
  | .ptr d => uptoBulk d + 1
  | .slice elems spare => uptoBulkAll elems + uptoBulkAll spare + 1
  | .agg parts => uptoBulkAll parts + 1
  | .iface _ d => uptoBulk d + 1
  | .map entries => uptoBulkEntries entries + 1
  | .held _ => 1
def uptoBulkAll {H : Type} : List (DataW H) → Nat
  | [] => 0
  | d :: r => uptoBulk d + uptoBulkAll r
def uptoBulkEntries {H : Type} : List (Lit × DataW H) → Nat
  | [] => 0
  | x :: r => uptoBulkEntry x + uptoBulkEntries r
def uptoBulkEntry {H : Type} : Lit × DataW H → Nat
  | (.string bytes, d) => bytes.length + uptoBulk d + 1
  | (_, d) => uptoBulk d + 1
 end
def uptoSmall : (H : Type) → List (DataW H) → Bool := fun _ ds => decide (uptoBulkAll ds ≤ 1048576)
def OpenSpec.upto (s : _root_.Go.ChangeSpec) : _root_.Go.OpenSpec := { _root_.Go.OpenSpec.ofChange s with cond := some uptoSmall }

/-- 'ostiarylaw08.MsgWrites', WHERE WHAT IT READS IS OF BULK AT MOST 1048576: true; the input reads as it did. -/
def msgWritesUptoRow : OpenClaim := { program := "ytcggcoijhdagnaa", sum := "669508195b8c0cc59862b9350126290e7918e011f1706d3783791b7e7e5e7719", func := "ostiary/ostiarylaw08.MsgWrites", spec := "msgWrites", unfollowed := true, recurses := true, apart := false, narrowed := true }
def MsgWritesUptoSaid : Prop := msgWritesUptoRow.holds Try.pinned (OpenSpec.upto msgWritesSpec)

/-- 'ostiarylaw08.MsgFlags', WHERE WHAT IT READS IS OF BULK AT MOST 1048576: true; the input reads as it did. -/
def msgFlagsUptoRow : OpenClaim := { program := "ytcggcoijhdagnaa", sum := "669508195b8c0cc59862b9350126290e7918e011f1706d3783791b7e7e5e7719", func := "ostiary/ostiarylaw08.MsgFlags", spec := "msgFlags", unfollowed := true, recurses := true, apart := false, narrowed := true }
def MsgFlagsUptoSaid : Prop := msgFlagsUptoRow.holds Try.pinned (OpenSpec.upto msgFlagsSpec)

/-- 'ostiarylaw08.MsgReplies', WHERE WHAT IT READS IS OF BULK AT MOST 1048576: true; the input reads as it did. -/
def msgRepliesUptoRow : OpenClaim := { program := "ytcggcoijhdagnaa", sum := "669508195b8c0cc59862b9350126290e7918e011f1706d3783791b7e7e5e7719", func := "ostiary/ostiarylaw08.MsgReplies", spec := "msgReplies", unfollowed := true, recurses := true, apart := false, narrowed := true }
def MsgRepliesUptoSaid : Prop := msgRepliesUptoRow.holds Try.pinned (OpenSpec.upto msgRepliesSpec)

/-- 'ostiarylaw08.MsgReply', WHERE WHAT IT READS IS OF BULK AT MOST 1048576: true; the input reads as it did. -/
def msgReplyUptoRow : OpenClaim := { program := "ytcggcoijhdagnaa", sum := "669508195b8c0cc59862b9350126290e7918e011f1706d3783791b7e7e5e7719", func := "ostiary/ostiarylaw08.MsgReply", spec := "msgReply", unfollowed := true, recurses := true, apart := false, narrowed := true }
def MsgReplyUptoSaid : Prop := msgReplyUptoRow.holds Try.pinned (OpenSpec.upto msgReplySpec)

/-- 'ostiarylaw08.MsgReads', WHERE WHAT IT READS IS OF BULK AT MOST 1048576: true; the input reads as it did. -/
def msgReadsUptoRow : OpenClaim := { program := "ytcggcoijhdagnaa", sum := "669508195b8c0cc59862b9350126290e7918e011f1706d3783791b7e7e5e7719", func := "ostiary/ostiarylaw08.MsgReads", spec := "msgReads", unfollowed := true, recurses := true, apart := false, narrowed := true }
def MsgReadsUptoSaid : Prop := msgReadsUptoRow.holds Try.pinned (OpenSpec.upto msgReadsSpec)

/-- 'ostiarylaw08.MsgBack', WHERE WHAT IT READS IS OF BULK AT MOST 1048576: true; the input reads as it did. -/
def msgBackUptoRow : OpenClaim := { program := "ytcggcoijhdagnaa", sum := "669508195b8c0cc59862b9350126290e7918e011f1706d3783791b7e7e5e7719", func := "ostiary/ostiarylaw08.MsgBack", spec := "msgBack", unfollowed := true, recurses := true, apart := false, narrowed := true }
def MsgBackUptoSaid : Prop := msgBackUptoRow.holds Try.pinned (OpenSpec.upto msgBackSpec)

/-- 'ostiarylaw08.MsgKnown', WHERE WHAT IT READS IS OF BULK AT MOST 1048576: true; the input reads as it did. -/
def msgKnownUptoRow : OpenClaim := { program := "ytcggcoijhdagnaa", sum := "669508195b8c0cc59862b9350126290e7918e011f1706d3783791b7e7e5e7719", func := "ostiary/ostiarylaw08.MsgKnown", spec := "msgKnown", unfollowed := true, recurses := true, apart := false, narrowed := true }
def MsgKnownUptoSaid : Prop := msgKnownUptoRow.holds Try.pinned (OpenSpec.upto msgKnownSpec)

end Rows
end Go.Proofs.Ytcggcoijhdagnaa
