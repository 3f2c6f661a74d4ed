/-
  No cell of these rows narrows 'for every input' (looked for: loops, veiled, ifaces, maps, wideKeys, modest, calm, conditions, laid).
  DERIVED. THE GIVEN ROWS OF THIS SEAT. 5 by the template 'for every input the law returns true; each argument reads behind the call as it read before'; 0 by the template 'total and deterministic' (their statements: YtjbcamcegnjnaaaGreatTotals.lean).
  GIVEN WITH THE SEED: the statements are not yours to turn. If you find one false, say at which input.
  Laid BY PROGRAM, IN A SANDBOX (cutbox-rows.mjs): the forced cells as the released guide's own fill.sh prints them over the translation 1ef838bbd68d73ab… (all of the seat's roots in one cut). By AI agents, Wed Nov 11 2026. No macro, syntax, notation, axiom, sorry.
-/
import Derived.Test.YtjbcamcegnjnaaaGreatChecked
import GoSem.Claim
import GoSem.ClaimJoined
import GoSem.ClaimMapViews
import Derived.JoinedTies
import Derived.KernelRfl
namespace Go.Proofs.YtjbcamcegnjnaaaGreat
/- THE CELL 'sum', in the pinned program and in every row, IS THE sha256 OF THE DUMP (.gsa) THAT YtjbcamcegnjnaaaGreatProg.lean LOADS. Nothing in Lean hashes anything: it is a label: what it is worth is what the hold of that sum in a sandbox is worth. -/
noncomputable def Tryz.pinned : Pinned := { name := "ytjbcamcegnjnaaagreat", sum := "1ef838bbd68d73abc146ae085fa4afff6834ac1749de88116e444b1f808042a2", checked := Tryz.checked }
namespace Rows
def none {H : Type} : Left H := { results := [], args := [] }

/-- 'ostiarylaw26.CoreFinds': WHATEVER THE INPUT: true; the input reads as it did. -/
def coreFindsSpec : ChangeSpec := { name := "coreFinds", fn := fun _ => fun
  | [d1, d2, d3, d4] => { results := [.lit (.bool true)], args := [d1, d2, d3, d4] }
  | _ => none }
def coreFindsRow : OpenClaim := { program := "ytjbcamcegnjnaaagreat", sum := "1ef838bbd68d73abc146ae085fa4afff6834ac1749de88116e444b1f808042a2", func := "ostiary/ostiarylaw26.CoreFinds", spec := "coreFinds", inPlace := ["math.archCeil", "math.archFloor", "math.Float64bits", "math.Float64frombits", "math.archTrunc"], unfollowed := true, recurses := true, plainKeys := false, apart := false }
def CoreFindsSaid : Prop := coreFindsRow.holds Tryz.pinned (OpenSpec.ofChange coreFindsSpec)

/-- ITS FALSE NEIGHBOUR: 'it returns false'. Refute it at one input. -/
def coreFindsWrong : ChangeSpec := { name := "coreFinds", fn := fun _ => fun
  | [d1, d2, d3, d4] => { results := [.lit (.bool false)], args := [d1, d2, d3, d4] }
  | _ => none }
def CoreFindsWrongFalsely : Prop := coreFindsRow.holds Tryz.pinned (OpenSpec.ofChange coreFindsWrong)

/-- 'ostiarylaw26.CoreKnown': WHATEVER THE INPUT: true; the input reads as it did. -/
def coreKnownSpec : ChangeSpec := { name := "coreKnown", fn := fun _ => fun
  | [] => { results := [.lit (.bool true)], args := [] }
  | _ => none }
def coreKnownRow : OpenClaim := { program := "ytjbcamcegnjnaaagreat", sum := "1ef838bbd68d73abc146ae085fa4afff6834ac1749de88116e444b1f808042a2", func := "ostiary/ostiarylaw26.CoreKnown", spec := "coreKnown", inPlace := ["math.archCeil", "math.archFloor", "math.Float64bits", "math.Float64frombits", "math.archTrunc"], unfollowed := true, recurses := true, plainKeys := false, apart := false }
def CoreKnownSaid : Prop := coreKnownRow.holds Tryz.pinned (OpenSpec.ofChange coreKnownSpec)

/-- ITS FALSE NEIGHBOUR: 'it returns false'. Refute it at one input. -/
def coreKnownWrong : ChangeSpec := { name := "coreKnown", fn := fun _ => fun
  | [] => { results := [.lit (.bool false)], args := [] }
  | _ => none }
def CoreKnownWrongFalsely : Prop := coreKnownRow.holds Tryz.pinned (OpenSpec.ofChange coreKnownWrong)

/-- 'ostiarylaw26.CoreEnds': WHATEVER THE INPUT: true; the input reads as it did. -/
def coreEndsSpec : ChangeSpec := { name := "coreEnds", fn := fun _ => fun
  | [d1, d2] => { results := [.lit (.bool true)], args := [d1, d2] }
  | _ => none }
def coreEndsRow : OpenClaim := { program := "ytjbcamcegnjnaaagreat", sum := "1ef838bbd68d73abc146ae085fa4afff6834ac1749de88116e444b1f808042a2", func := "ostiary/ostiarylaw26.CoreEnds", spec := "coreEnds", inPlace := ["math.archCeil", "math.archFloor", "math.Float64bits", "math.Float64frombits", "math.archTrunc"], unfollowed := true, recurses := true, plainKeys := false, apart := false }
def CoreEndsSaid : Prop := coreEndsRow.holds Tryz.pinned (OpenSpec.ofChange coreEndsSpec)

/-- ITS FALSE NEIGHBOUR: 'it returns false'. Refute it at one input. -/
def coreEndsWrong : ChangeSpec := { name := "coreEnds", fn := fun _ => fun
  | [d1, d2] => { results := [.lit (.bool false)], args := [d1, d2] }
  | _ => none }
def CoreEndsWrongFalsely : Prop := coreEndsRow.holds Tryz.pinned (OpenSpec.ofChange coreEndsWrong)

/-- 'ostiarylaw26.CoreIgnores': WHATEVER THE INPUT: true; the input reads as it did. -/
def coreIgnoresSpec : ChangeSpec := { name := "coreIgnores", fn := fun _ => fun
  | [d1, d2, d3] => { results := [.lit (.bool true)], args := [d1, d2, d3] }
  | _ => none }
def coreIgnoresRow : OpenClaim := { program := "ytjbcamcegnjnaaagreat", sum := "1ef838bbd68d73abc146ae085fa4afff6834ac1749de88116e444b1f808042a2", func := "ostiary/ostiarylaw26.CoreIgnores", spec := "coreIgnores", inPlace := ["math.archCeil", "math.archFloor", "math.Float64bits", "math.Float64frombits", "math.archTrunc"], unfollowed := true, recurses := true, plainKeys := false, apart := false }
def CoreIgnoresSaid : Prop := coreIgnoresRow.holds Tryz.pinned (OpenSpec.ofChange coreIgnoresSpec)

/-- ITS FALSE NEIGHBOUR: 'it returns false'. Refute it at one input. -/
def coreIgnoresWrong : ChangeSpec := { name := "coreIgnores", fn := fun _ => fun
  | [d1, d2, d3] => { results := [.lit (.bool false)], args := [d1, d2, d3] }
  | _ => none }
def CoreIgnoresWrongFalsely : Prop := coreIgnoresRow.holds Tryz.pinned (OpenSpec.ofChange coreIgnoresWrong)

/-- 'ostiarylaw26.CoreNone': WHATEVER THE INPUT: true; the input reads as it did. -/
def coreNoneSpec : ChangeSpec := { name := "coreNone", fn := fun _ => fun
  | [d] => { results := [.lit (.bool true)], args := [d] }
  | _ => none }
def coreNoneRow : OpenClaim := { program := "ytjbcamcegnjnaaagreat", sum := "1ef838bbd68d73abc146ae085fa4afff6834ac1749de88116e444b1f808042a2", func := "ostiary/ostiarylaw26.CoreNone", spec := "coreNone", inPlace := ["math.archCeil", "math.archFloor", "math.Float64bits", "math.Float64frombits", "math.archTrunc"], unfollowed := true, recurses := true, plainKeys := false, apart := false }
def CoreNoneSaid : Prop := coreNoneRow.holds Tryz.pinned (OpenSpec.ofChange coreNoneSpec)

/-- ITS FALSE NEIGHBOUR: 'it returns false'. Refute it at one input. -/
def coreNoneWrong : ChangeSpec := { name := "coreNone", fn := fun _ => fun
  | [d] => { results := [.lit (.bool false)], args := [d] }
  | _ => none }
def CoreNoneWrongFalsely : Prop := coreNoneRow.holds Tryz.pinned (OpenSpec.ofChange coreNoneWrong)

/- THE SECOND FORM. 'bulk': how many values and letters a reading holds, each counted each time it is reached (what is shared counts as often as it is met; a slice's spare places count too). A statement '..UptoSaid' is the law's where the arguments, and the package variables that the reading takes, are together of bulk at most 1048576: NARROWER than '..Said'. Prove '..Said' where nothing that the law and all that it calls make is longer than what came in: it says more and counts as full. Else prove '..UptoSaid'. A law counts once. -/
mutual
def uptoBulk {H : Type} : DataW H → Nat
  | .lit (.string bytes) => bytes.length + 1
  | .lit _ => 1
  | .nil => 1
  | .ptr d => uptoBulk d + 1
  | .slice elems spare => uptoBulkAll elems + uptoBulkAll spare + 1
  | .agg parts => uptoBulkAll parts + 1
  | .iface _ d => uptoBulk d + 1
  | .map entries => uptoBulkEntries entries + 1
  | .held _ => 1
def uptoBulkAll {H : Type} : List (DataW H) → Nat
  | [] => 0
  | d :: r => uptoBulk d + uptoBulkAll r
def uptoBulkEntries {H : Type} : List (Lit × DataW H) → Nat
  | [] => 0
  | x :: r => uptoBulkEntry x + uptoBulkEntries r
def uptoBulkEntry {H : Type} : Lit × DataW H → Nat
  | (.string bytes, d) => bytes.length + uptoBulk d + 1
  | (_, d) => uptoBulk d + 1
 end
def uptoSmall : (H : Type) → List (DataW H) → Bool := fun _ ds => decide (uptoBulkAll ds ≤ 1048576)
def OpenSpec.upto (s : _root_.Go.ChangeSpec) : _root_.Go.OpenSpec := { _root_.Go.OpenSpec.ofChange s with cond := some uptoSmall }

/-- 'ostiarylaw26.CoreFinds', WHERE WHAT IT READS IS OF BULK AT MOST 1048576: true; the input reads as it did. -/
def coreFindsUptoRow : OpenClaim := { program := "ytjbcamcegnjnaaagreat", sum := "1ef838bbd68d73abc146ae085fa4afff6834ac1749de88116e444b1f808042a2", func := "ostiary/ostiarylaw26.CoreFinds", spec := "coreFinds", inPlace := ["math.archCeil", "math.archFloor", "math.Float64bits", "math.Float64frombits", "math.archTrunc"], unfollowed := true, recurses := true, plainKeys := false, apart := false, narrowed := true }
def CoreFindsUptoSaid : Prop := coreFindsUptoRow.holds Tryz.pinned (OpenSpec.upto coreFindsSpec)

/-- 'ostiarylaw26.CoreKnown', WHERE WHAT IT READS IS OF BULK AT MOST 1048576: true; the input reads as it did. -/
def coreKnownUptoRow : OpenClaim := { program := "ytjbcamcegnjnaaagreat", sum := "1ef838bbd68d73abc146ae085fa4afff6834ac1749de88116e444b1f808042a2", func := "ostiary/ostiarylaw26.CoreKnown", spec := "coreKnown", inPlace := ["math.archCeil", "math.archFloor", "math.Float64bits", "math.Float64frombits", "math.archTrunc"], unfollowed := true, recurses := true, plainKeys := false, apart := false, narrowed := true }
def CoreKnownUptoSaid : Prop := coreKnownUptoRow.holds Tryz.pinned (OpenSpec.upto coreKnownSpec)

/-- 'ostiarylaw26.CoreEnds', WHERE WHAT IT READS IS OF BULK AT MOST 1048576: true; the input reads as it did. -/
def coreEndsUptoRow : OpenClaim := { program := "ytjbcamcegnjnaaagreat", sum := "1ef838bbd68d73abc146ae085fa4afff6834ac1749de88116e444b1f808042a2", func := "ostiary/ostiarylaw26.CoreEnds", spec := "coreEnds", inPlace := ["math.archCeil", "math.archFloor", "math.Float64bits", "math.Float64frombits", "math.archTrunc"], unfollowed := true, recurses := true, plainKeys := false, apart := false, narrowed := true }
def CoreEndsUptoSaid : Prop := coreEndsUptoRow.holds Tryz.pinned (OpenSpec.upto coreEndsSpec)

/-- 'ostiarylaw26.CoreIgnores', WHERE WHAT IT READS IS OF BULK AT MOST 1048576: true; the input reads as it did. -/
def coreIgnoresUptoRow : OpenClaim := { program := "ytjbcamcegnjnaaagreat", sum := "1ef838bbd68d73abc146ae085fa4afff6834ac1749de88116e444b1f808042a2", func := "ostiary/ostiarylaw26.CoreIgnores", spec := "coreIgnores", inPlace := ["math.archCeil", "math.archFloor", "math.Float64bits", "math.Float64frombits", "math.archTrunc"], unfollowed := true, recurses := true, plainKeys := false, apart := false, narrowed := true }
def CoreIgnoresUptoSaid : Prop := coreIgnoresUptoRow.holds Tryz.pinned (OpenSpec.upto coreIgnoresSpec)

/-- 'ostiarylaw26.CoreNone', WHERE WHAT IT READS IS OF BULK AT MOST 1048576: true; the input reads as it did. -/
def coreNoneUptoRow : OpenClaim := { program := "ytjbcamcegnjnaaagreat", sum := "1ef838bbd68d73abc146ae085fa4afff6834ac1749de88116e444b1f808042a2", func := "ostiary/ostiarylaw26.CoreNone", spec := "coreNone", inPlace := ["math.archCeil", "math.archFloor", "math.Float64bits", "math.Float64frombits", "math.archTrunc"], unfollowed := true, recurses := true, plainKeys := false, apart := false, narrowed := true }
def CoreNoneUptoSaid : Prop := coreNoneUptoRow.holds Tryz.pinned (OpenSpec.upto coreNoneSpec)

end Rows
end Go.Proofs.YtjbcamcegnjnaaaGreat
