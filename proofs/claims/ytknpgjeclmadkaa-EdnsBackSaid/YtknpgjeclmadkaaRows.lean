/-
  No cell of these rows narrows 'for every input' (looked for: loops, veiled, ifaces, maps, wideKeys, modest, calm, conditions, laid).
  DERIVED. THE GIVEN ROWS OF THIS SEAT. 5 by the template 'for every input the law returns true; each argument reads behind the call as it read before'; 0 by the template 'total and deterministic' (their statements: YtknpgjeclmadkaaTotals.lean).
  GIVEN WITH THE SEED: the statements are not yours to turn. If you find one false, say at which input.
  Laid BY PROGRAM, IN A SANDBOX (cutbox-rows.mjs): the forced cells as the released guide's own fill.sh prints them over the translation 46fa530ef1403897… (all of the seat's roots in one cut). By AI agents, Wed Nov 11 2026. No macro, syntax, notation, axiom, sorry.
-/
import Derived.Test.YtknpgjeclmadkaaChecked
import GoSem.Claim
import GoSem.ClaimJoined
import GoSem.ClaimMapViews
import Derived.JoinedTies
import Derived.KernelRfl
namespace Go.Proofs.Ytknpgjeclmadkaa
/- THE CELL 'sum', in the pinned program and in every row, IS THE sha256 OF THE DUMP (.gsa) THAT YtknpgjeclmadkaaProg.lean LOADS. Nothing in Lean hashes anything: it is a label: what it is worth is what the hold of that sum in a sandbox is worth. -/
noncomputable def Try.pinned : Pinned := { name := "ytknpgjeclmadkaa", sum := "46fa530ef1403897112a5494fa6c271077aa2e6f4ea1354b1ca86bae9b593c9f", checked := Try.checked }
namespace Rows
def none {H : Type} : Left H := { results := [], args := [] }

/-- 'ostiarylaw09.EdnsPuts': WHATEVER THE INPUT: true; the input reads as it did. -/
def ednsPutsSpec : ChangeSpec := { name := "ednsPuts", fn := fun _ => fun
  | [d1, d2] => { results := [.lit (.bool true)], args := [d1, d2] }
  | _ => none }
def ednsPutsRow : OpenClaim := { program := "ytknpgjeclmadkaa", sum := "46fa530ef1403897112a5494fa6c271077aa2e6f4ea1354b1ca86bae9b593c9f", func := "ostiary/ostiarylaw09.EdnsPuts", spec := "ednsPuts", unfollowed := true, recurses := true, apart := false }
def EdnsPutsSaid : Prop := ednsPutsRow.holds Try.pinned (OpenSpec.ofChange ednsPutsSpec)

/-- ITS FALSE NEIGHBOUR: 'it returns false'. Refute it at one input. -/
def ednsPutsWrong : ChangeSpec := { name := "ednsPuts", fn := fun _ => fun
  | [d1, d2] => { results := [.lit (.bool false)], args := [d1, d2] }
  | _ => none }
def EdnsPutsWrongFalsely : Prop := ednsPutsRow.holds Try.pinned (OpenSpec.ofChange ednsPutsWrong)

/-- 'ostiarylaw09.EdnsTells': WHATEVER THE INPUT: true; the input reads as it did. -/
def ednsTellsSpec : ChangeSpec := { name := "ednsTells", fn := fun _ => fun
  | [d] => { results := [.lit (.bool true)], args := [d] }
  | _ => none }
def ednsTellsRow : OpenClaim := { program := "ytknpgjeclmadkaa", sum := "46fa530ef1403897112a5494fa6c271077aa2e6f4ea1354b1ca86bae9b593c9f", func := "ostiary/ostiarylaw09.EdnsTells", spec := "ednsTells", unfollowed := true, recurses := true, apart := false }
def EdnsTellsSaid : Prop := ednsTellsRow.holds Try.pinned (OpenSpec.ofChange ednsTellsSpec)

/-- ITS FALSE NEIGHBOUR: 'it returns false'. Refute it at one input. -/
def ednsTellsWrong : ChangeSpec := { name := "ednsTells", fn := fun _ => fun
  | [d] => { results := [.lit (.bool false)], args := [d] }
  | _ => none }
def EdnsTellsWrongFalsely : Prop := ednsTellsRow.holds Try.pinned (OpenSpec.ofChange ednsTellsWrong)

/-- 'ostiarylaw09.EdnsStrips': WHATEVER THE INPUT: true; the input reads as it did. -/
def ednsStripsSpec : ChangeSpec := { name := "ednsStrips", fn := fun _ => fun
  | [d] => { results := [.lit (.bool true)], args := [d] }
  | _ => none }
def ednsStripsRow : OpenClaim := { program := "ytknpgjeclmadkaa", sum := "46fa530ef1403897112a5494fa6c271077aa2e6f4ea1354b1ca86bae9b593c9f", func := "ostiary/ostiarylaw09.EdnsStrips", spec := "ednsStrips", unfollowed := true, recurses := true, apart := false }
def EdnsStripsSaid : Prop := ednsStripsRow.holds Try.pinned (OpenSpec.ofChange ednsStripsSpec)

/-- ITS FALSE NEIGHBOUR: 'it returns false'. Refute it at one input. -/
def ednsStripsWrong : ChangeSpec := { name := "ednsStrips", fn := fun _ => fun
  | [d] => { results := [.lit (.bool false)], args := [d] }
  | _ => none }
def EdnsStripsWrongFalsely : Prop := ednsStripsRow.holds Try.pinned (OpenSpec.ofChange ednsStripsWrong)

/-- 'ostiarylaw09.EdnsKnown': WHATEVER THE INPUT: true; the input reads as it did. -/
def ednsKnownSpec : ChangeSpec := { name := "ednsKnown", fn := fun _ => fun
  | [] => { results := [.lit (.bool true)], args := [] }
  | _ => none }
def ednsKnownRow : OpenClaim := { program := "ytknpgjeclmadkaa", sum := "46fa530ef1403897112a5494fa6c271077aa2e6f4ea1354b1ca86bae9b593c9f", func := "ostiary/ostiarylaw09.EdnsKnown", spec := "ednsKnown", unfollowed := true, recurses := true, apart := false }
def EdnsKnownSaid : Prop := ednsKnownRow.holds Try.pinned (OpenSpec.ofChange ednsKnownSpec)

/-- ITS FALSE NEIGHBOUR: 'it returns false'. Refute it at one input. -/
def ednsKnownWrong : ChangeSpec := { name := "ednsKnown", fn := fun _ => fun
  | [] => { results := [.lit (.bool false)], args := [] }
  | _ => none }
def EdnsKnownWrongFalsely : Prop := ednsKnownRow.holds Try.pinned (OpenSpec.ofChange ednsKnownWrong)

/-- 'ostiarylaw09.EdnsBack': WHATEVER THE INPUT: true; the input reads as it did. -/
def ednsBackSpec : ChangeSpec := { name := "ednsBack", fn := fun _ => fun
  | [d1, d2] => { results := [.lit (.bool true)], args := [d1, d2] }
  | _ => none }
def ednsBackRow : OpenClaim := { program := "ytknpgjeclmadkaa", sum := "46fa530ef1403897112a5494fa6c271077aa2e6f4ea1354b1ca86bae9b593c9f", func := "ostiary/ostiarylaw09.EdnsBack", spec := "ednsBack", unfollowed := true, recurses := true, apart := false }
def EdnsBackSaid : Prop := ednsBackRow.holds Try.pinned (OpenSpec.ofChange ednsBackSpec)

/-- ITS FALSE NEIGHBOUR: 'it returns false'. Refute it at one input. -/
def ednsBackWrong : ChangeSpec := { name := "ednsBack", fn := fun _ => fun
  | [d1, d2] => { results := [.lit (.bool false)], args := [d1, d2] }
  | _ => none }
def EdnsBackWrongFalsely : Prop := ednsBackRow.holds Try.pinned (OpenSpec.ofChange ednsBackWrong)

/- THE SECOND FORM. 'bulk': how many values and letters a reading holds, each counted each time it is reached (what is shared counts as often as it is met; a slice's spare places count too). A statement '..UptoSaid' is the law's where the arguments, and the package variables that the reading takes, are together of bulk at most 1048576: NARROWER than '..Said'. Prove '..Said' where nothing that the law and all that it calls make is longer than what came in: it says more and counts as full. Else prove '..UptoSaid'. A law counts once. -/
mutual
def uptoBulk {H : Type} : DataW H → Nat
  | .lit (.string bytes) => bytes.length + 1
  | .lit _ => 1
  | .nil => 1
  | .ptr d => uptoBulk d + 1
  | .slice elems spare => uptoBulkAll elems + uptoBulkAll spare + 1
  | .agg parts => uptoBulkAll parts + 1
  | .iface _ d => uptoBulk d + 1
  | .map entries => uptoBulkEntries entries + 1
  | .held _ => 1
def uptoBulkAll {H : Type} : List (DataW H) → Nat
  | [] => 0
  | d :: r => uptoBulk d + uptoBulkAll r
def uptoBulkEntries {H : Type} : List (Lit × DataW H) → Nat
  | [] => 0
  | x :: r => uptoBulkEntry x + uptoBulkEntries r
def uptoBulkEntry {H : Type} : Lit × DataW H → Nat
  | (.string bytes, d) => bytes.length + uptoBulk d + 1
  | (_, d) => uptoBulk d + 1
 end
def uptoSmall : (H : Type) → List (DataW H) → Bool := fun _ ds => decide (uptoBulkAll ds ≤ 1048576)
def OpenSpec.upto (s : _root_.Go.ChangeSpec) : _root_.Go.OpenSpec := { _root_.Go.OpenSpec.ofChange s with cond := some uptoSmall }

/-- 'ostiarylaw09.EdnsPuts', WHERE WHAT IT READS IS OF BULK AT MOST 1048576: true; the input reads as it did. -/
def ednsPutsUptoRow : OpenClaim := { program := "ytknpgjeclmadkaa", sum := "46fa530ef1403897112a5494fa6c271077aa2e6f4ea1354b1ca86bae9b593c9f", func := "ostiary/ostiarylaw09.EdnsPuts", spec := "ednsPuts", unfollowed := true, recurses := true, apart := false, narrowed := true }
def EdnsPutsUptoSaid : Prop := ednsPutsUptoRow.holds Try.pinned (OpenSpec.upto ednsPutsSpec)

/-- 'ostiarylaw09.EdnsTells', WHERE WHAT IT READS IS OF BULK AT MOST 1048576: true; the input reads as it did. -/
def ednsTellsUptoRow : OpenClaim := { program := "ytknpgjeclmadkaa", sum := "46fa530ef1403897112a5494fa6c271077aa2e6f4ea1354b1ca86bae9b593c9f", func := "ostiary/ostiarylaw09.EdnsTells", spec := "ednsTells", unfollowed := true, recurses := true, apart := false, narrowed := true }
def EdnsTellsUptoSaid : Prop := ednsTellsUptoRow.holds Try.pinned (OpenSpec.upto ednsTellsSpec)

/-- 'ostiarylaw09.EdnsStrips', WHERE WHAT IT READS IS OF BULK AT MOST 1048576: true; the input reads as it did. -/
def ednsStripsUptoRow : OpenClaim := { program := "ytknpgjeclmadkaa", sum := "46fa530ef1403897112a5494fa6c271077aa2e6f4ea1354b1ca86bae9b593c9f", func := "ostiary/ostiarylaw09.EdnsStrips", spec := "ednsStrips", unfollowed := true, recurses := true, apart := false, narrowed := true }
def EdnsStripsUptoSaid : Prop := ednsStripsUptoRow.holds Try.pinned (OpenSpec.upto ednsStripsSpec)

/-- 'ostiarylaw09.EdnsKnown', WHERE WHAT IT READS IS OF BULK AT MOST 1048576: true; the input reads as it did. -/
def ednsKnownUptoRow : OpenClaim := { program := "ytknpgjeclmadkaa", sum := "46fa530ef1403897112a5494fa6c271077aa2e6f4ea1354b1ca86bae9b593c9f", func := "ostiary/ostiarylaw09.EdnsKnown", spec := "ednsKnown", unfollowed := true, recurses := true, apart := false, narrowed := true }
def EdnsKnownUptoSaid : Prop := ednsKnownUptoRow.holds Try.pinned (OpenSpec.upto ednsKnownSpec)

/-- 'ostiarylaw09.EdnsBack', WHERE WHAT IT READS IS OF BULK AT MOST 1048576: true; the input reads as it did. -/
def ednsBackUptoRow : OpenClaim := { program := "ytknpgjeclmadkaa", sum := "46fa530ef1403897112a5494fa6c271077aa2e6f4ea1354b1ca86bae9b593c9f", func := "ostiary/ostiarylaw09.EdnsBack", spec := "ednsBack", unfollowed := true, recurses := true, apart := false, narrowed := true }
def EdnsBackUptoSaid : Prop := ednsBackUptoRow.holds Try.pinned (OpenSpec.upto ednsBackSpec)

end Rows
end Go.Proofs.Ytknpgjeclmadkaa
