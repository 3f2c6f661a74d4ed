/-
  No cell of these rows narrows 'for every input' (looked for: loops, veiled, ifaces, maps, wideKeys, modest, calm, conditions, laid).
  DERIVED. THE GIVEN ROWS OF THIS SEAT. 6 by the template 'for every input the law returns true; each argument reads behind the call as it read before'; 0 by the template 'total and deterministic' (their statements: YtjdecbfjpkpepaaTotals.lean).
  GIVEN WITH THE SEED: the statements are not yours to turn. If you find one false, say at which input.
  Laid BY PROGRAM, IN A SANDBOX (cutbox-rows.mjs): the forced cells as the released guide's own fill.sh prints them over the translation 8ba54739c3ec5fac… (all of the seat's roots in one cut). By AI agents, Wed Nov 11 2026. No macro, syntax, notation, axiom, sorry.
-/
import Derived.Test.YtjdecbfjpkpepaaChecked
import GoSem.Claim
import GoSem.ClaimJoined
import GoSem.ClaimMapViews
import Derived.JoinedTies
import Derived.KernelRfl
namespace Go.Proofs.Ytjdecbfjpkpepaa
/- THE CELL 'sum', in the pinned program and in every row, IS THE sha256 OF THE DUMP (.gsa) THAT YtjdecbfjpkpepaaProg.lean LOADS. Nothing in Lean hashes anything: it is a label: what it is worth is what the hold of that sum in a sandbox is worth. -/
noncomputable def Try.pinned : Pinned := { name := "ytjdecbfjpkpepaa", sum := "8ba54739c3ec5faca6544f4167e8626913c240fb4574143a4ef729d82cf02e96", checked := Try.checked }
namespace Rows
def none {H : Type} : Left H := { results := [], args := [] }

/-- 'ostiarylaw06.RdataReadsOnly': WHATEVER THE INPUT: true; the input reads as it did. -/
def rdataReadsOnlySpec : ChangeSpec := { name := "rdataReadsOnly", fn := fun _ => fun
  | [d1, d2, d3, d4] => { results := [.lit (.bool true)], args := [d1, d2, d3, d4] }
  | _ => none }
def rdataReadsOnlyRow : OpenClaim := { program := "ytjdecbfjpkpepaa", sum := "8ba54739c3ec5faca6544f4167e8626913c240fb4574143a4ef729d82cf02e96", func := "ostiary/ostiarylaw06.RdataReadsOnly", spec := "rdataReadsOnly", unfollowed := true, recurses := true, apart := false }
def RdataReadsOnlySaid : Prop := rdataReadsOnlyRow.holds Try.pinned (OpenSpec.ofChange rdataReadsOnlySpec)

/-- ITS FALSE NEIGHBOUR: 'it returns false'. Refute it at one input. -/
def rdataReadsOnlyWrong : ChangeSpec := { name := "rdataReadsOnly", fn := fun _ => fun
  | [d1, d2, d3, d4] => { results := [.lit (.bool false)], args := [d1, d2, d3, d4] }
  | _ => none }
def RdataReadsOnlyWrongFalsely : Prop := rdataReadsOnlyRow.holds Try.pinned (OpenSpec.ofChange rdataReadsOnlyWrong)

/-- 'ostiarylaw06.RdataKnown': WHATEVER THE INPUT: true; the input reads as it did. -/
def rdataKnownSpec : ChangeSpec := { name := "rdataKnown", fn := fun _ => fun
  | [] => { results := [.lit (.bool true)], args := [] }
  | _ => none }
def rdataKnownRow : OpenClaim := { program := "ytjdecbfjpkpepaa", sum := "8ba54739c3ec5faca6544f4167e8626913c240fb4574143a4ef729d82cf02e96", func := "ostiary/ostiarylaw06.RdataKnown", spec := "rdataKnown", unfollowed := true, recurses := true, apart := false }
def RdataKnownSaid : Prop := rdataKnownRow.holds Try.pinned (OpenSpec.ofChange rdataKnownSpec)

/-- ITS FALSE NEIGHBOUR: 'it returns false'. Refute it at one input. -/
def rdataKnownWrong : ChangeSpec := { name := "rdataKnown", fn := fun _ => fun
  | [] => { results := [.lit (.bool false)], args := [] }
  | _ => none }
def RdataKnownWrongFalsely : Prop := rdataKnownRow.holds Try.pinned (OpenSpec.ofChange rdataKnownWrong)

/-- 'ostiarylaw06.RdataLower': WHATEVER THE INPUT: true; the input reads as it did. -/
def rdataLowerSpec : ChangeSpec := { name := "rdataLower", fn := fun _ => fun
  | [d1, d2] => { results := [.lit (.bool true)], args := [d1, d2] }
  | _ => none }
def rdataLowerRow : OpenClaim := { program := "ytjdecbfjpkpepaa", sum := "8ba54739c3ec5faca6544f4167e8626913c240fb4574143a4ef729d82cf02e96", func := "ostiary/ostiarylaw06.RdataLower", spec := "rdataLower", unfollowed := true, recurses := true, apart := false }
def RdataLowerSaid : Prop := rdataLowerRow.holds Try.pinned (OpenSpec.ofChange rdataLowerSpec)

/-- ITS FALSE NEIGHBOUR: 'it returns false'. Refute it at one input. -/
def rdataLowerWrong : ChangeSpec := { name := "rdataLower", fn := fun _ => fun
  | [d1, d2] => { results := [.lit (.bool false)], args := [d1, d2] }
  | _ => none }
def RdataLowerWrongFalsely : Prop := rdataLowerRow.holds Try.pinned (OpenSpec.ofChange rdataLowerWrong)

/-- 'ostiarylaw06.RdataChecks': WHATEVER THE INPUT: true; the input reads as it did. -/
def rdataChecksSpec : ChangeSpec := { name := "rdataChecks", fn := fun _ => fun
  | [d1, d2] => { results := [.lit (.bool true)], args := [d1, d2] }
  | _ => none }
def rdataChecksRow : OpenClaim := { program := "ytjdecbfjpkpepaa", sum := "8ba54739c3ec5faca6544f4167e8626913c240fb4574143a4ef729d82cf02e96", func := "ostiary/ostiarylaw06.RdataChecks", spec := "rdataChecks", unfollowed := true, recurses := true, apart := false }
def RdataChecksSaid : Prop := rdataChecksRow.holds Try.pinned (OpenSpec.ofChange rdataChecksSpec)

/-- ITS FALSE NEIGHBOUR: 'it returns false'. Refute it at one input. -/
def rdataChecksWrong : ChangeSpec := { name := "rdataChecks", fn := fun _ => fun
  | [d1, d2] => { results := [.lit (.bool false)], args := [d1, d2] }
  | _ => none }
def RdataChecksWrongFalsely : Prop := rdataChecksRow.holds Try.pinned (OpenSpec.ofChange rdataChecksWrong)

/-- 'ostiarylaw06.RdataBack': WHATEVER THE INPUT: true; the input reads as it did. -/
def rdataBackSpec : ChangeSpec := { name := "rdataBack", fn := fun _ => fun
  | [d1, d2] => { results := [.lit (.bool true)], args := [d1, d2] }
  | _ => none }
def rdataBackRow : OpenClaim := { program := "ytjdecbfjpkpepaa", sum := "8ba54739c3ec5faca6544f4167e8626913c240fb4574143a4ef729d82cf02e96", func := "ostiary/ostiarylaw06.RdataBack", spec := "rdataBack", unfollowed := true, recurses := true, apart := false }
def RdataBackSaid : Prop := rdataBackRow.holds Try.pinned (OpenSpec.ofChange rdataBackSpec)

/-- ITS FALSE NEIGHBOUR: 'it returns false'. Refute it at one input. -/
def rdataBackWrong : ChangeSpec := { name := "rdataBack", fn := fun _ => fun
  | [d1, d2] => { results := [.lit (.bool false)], args := [d1, d2] }
  | _ => none }
def RdataBackWrongFalsely : Prop := rdataBackRow.holds Try.pinned (OpenSpec.ofChange rdataBackWrong)

/-- 'ostiarylaw06.RdataWrites': WHATEVER THE INPUT: true; the input reads as it did. -/
def rdataWritesSpec : ChangeSpec := { name := "rdataWrites", fn := fun _ => fun
  | [d] => { results := [.lit (.bool true)], args := [d] }
  | _ => none }
def rdataWritesRow : OpenClaim := { program := "ytjdecbfjpkpepaa", sum := "8ba54739c3ec5faca6544f4167e8626913c240fb4574143a4ef729d82cf02e96", func := "ostiary/ostiarylaw06.RdataWrites", spec := "rdataWrites", unfollowed := true, recurses := true, apart := false }
def RdataWritesSaid : Prop := rdataWritesRow.holds Try.pinned (OpenSpec.ofChange rdataWritesSpec)

/-- ITS FALSE NEIGHBOUR: 'it returns false'. Refute it at one input. -/
def rdataWritesWrong : ChangeSpec := { name := "rdataWrites", fn := fun _ => fun
  | [d] => { results := [.lit (.bool false)], args := [d] }
  | _ => none }
def RdataWritesWrongFalsely : Prop := rdataWritesRow.holds Try.pinned (OpenSpec.ofChange rdataWritesWrong)

/- THE SECOND FORM. 'bulk': how many values and letters a reading holds, each counted each time it is reached (what is shared counts as often as it is met; a slice's spare places count too). A statement '..UptoSaid' is the law's where the arguments, and the package variables that the reading takes, are together of bulk at most 1048576: NARROWER than '..Said'. Prove '..Said' where nothing that the law and all that it calls make is longer than what came in: it says more and counts as full. Else prove '..UptoSaid'. A law counts once. -/
mutual
def uptoBulk {H : Type} : DataW H → Nat
  | .lit (.string bytes) => bytes.length + 1
  | .lit _ => 1
  | .nil => 1
  | .ptr d => uptoBulk d + 1
  | .slice elems spare => uptoBulkAll elems + uptoBulkAll spare + 1
  | .agg parts => uptoBulkAll parts + 1
  | .iface _ d => uptoBulk d + 1
  | .map entries => uptoBulkEntries entries + 1
  | .held _ => 1
def uptoBulkAll {H : Type} : List (DataW H) → Nat
  | [] => 0
  | d :: r => uptoBulk d + uptoBulkAll r
def uptoBulkEntries {H : Type} : List (Lit × DataW H) → Nat
  | [] => 0
  | x :: r => uptoBulkEntry x + uptoBulkEntries r
def uptoBulkEntry {H : Type} : Lit × DataW H → Nat
  | (.string bytes, d) => bytes.length + uptoBulk d + 1
  | (_, d) => uptoBulk d + 1
 end
def uptoSmall : (H : Type) → List (DataW H) → Bool := fun _ ds => decide (uptoBulkAll ds ≤ 1048576)
def OpenSpec.upto (s : _root_.Go.ChangeSpec) : _root_.Go.OpenSpec := { _root_.Go.OpenSpec.ofChange s with cond := some uptoSmall }

/-- 'ostiarylaw06.RdataReadsOnly', WHERE WHAT IT READS IS OF BULK AT MOST 1048576: true; the input reads as it did. -/
def rdataReadsOnlyUptoRow : OpenClaim := { program := "ytjdecbfjpkpepaa", sum := "8ba54739c3ec5faca6544f4167e8626913c240fb4574143a4ef729d82cf02e96", func := "ostiary/ostiarylaw06.RdataReadsOnly", spec := "rdataReadsOnly", unfollowed := true, recurses := true, apart := false, narrowed := true }
def RdataReadsOnlyUptoSaid : Prop := rdataReadsOnlyUptoRow.holds Try.pinned (OpenSpec.upto rdataReadsOnlySpec)

/-- 'ostiarylaw06.RdataKnown', WHERE WHAT IT READS IS OF BULK AT MOST 1048576: true; the input reads as it did. -/
def rdataKnownUptoRow : OpenClaim := { program := "ytjdecbfjpkpepaa", sum := "8ba54739c3ec5faca6544f4167e8626913c240fb4574143a4ef729d82cf02e96", func := "ostiary/ostiarylaw06.RdataKnown", spec := "rdataKnown", unfollowed := true, recurses := true, apart := false, narrowed := true }
def RdataKnownUptoSaid : Prop := rdataKnownUptoRow.holds Try.pinned (OpenSpec.upto rdataKnownSpec)

/-- 'ostiarylaw06.RdataLower', WHERE WHAT IT READS IS OF BULK AT MOST 1048576: true; the input reads as it did. -/
def rdataLowerUptoRow : OpenClaim := { program := "ytjdecbfjpkpepaa", sum := "8ba54739c3ec5faca6544f4167e8626913c240fb4574143a4ef729d82cf02e96", func := "ostiary/ostiarylaw06.RdataLower", spec := "rdataLower", unfollowed := true, recurses := true, apart := false, narrowed := true }
def RdataLowerUptoSaid : Prop := rdataLowerUptoRow.holds Try.pinned (OpenSpec.upto rdataLowerSpec)

/-- 'ostiarylaw06.RdataChecks', WHERE WHAT IT READS IS OF BULK AT MOST 1048576: true; the input reads as it did. -/
def rdataChecksUptoRow : OpenClaim := { program := "ytjdecbfjpkpepaa", sum := "8ba54739c3ec5faca6544f4167e8626913c240fb4574143a4ef729d82cf02e96", func := "ostiary/ostiarylaw06.RdataChecks", spec := "rdataChecks", unfollowed := true, recurses := true, apart := false, narrowed := true }
def RdataChecksUptoSaid : Prop := rdataChecksUptoRow.holds Try.pinned (OpenSpec.upto rdataChecksSpec)

/-- 'ostiarylaw06.RdataBack', WHERE WHAT IT READS IS OF BULK AT MOST 1048576: true; the input reads as it did. -/
def rdataBackUptoRow : OpenClaim := { program := "ytjdecbfjpkpepaa", sum := "8ba54739c3ec5faca6544f4167e8626913c240fb4574143a4ef729d82cf02e96", func := "ostiary/ostiarylaw06.RdataBack", spec := "rdataBack", unfollowed := true, recurses := true, apart := false, narrowed := true }
def RdataBackUptoSaid : Prop := rdataBackUptoRow.holds Try.pinned (OpenSpec.upto rdataBackSpec)

/-- 'ostiarylaw06.RdataWrites', WHERE WHAT IT READS IS OF BULK AT MOST 1048576: true; the input reads as it did. -/
def rdataWritesUptoRow : OpenClaim := { program := "ytjdecbfjpkpepaa", sum := "8ba54739c3ec5faca6544f4167e8626913c240fb4574143a4ef729d82cf02e96", func := "ostiary/ostiarylaw06.RdataWrites", spec := "rdataWrites", unfollowed := true, recurses := true, apart := false, narrowed := true }
def RdataWritesUptoSaid : Prop := rdataWritesUptoRow.holds Try.pinned (OpenSpec.upto rdataWritesSpec)

end Rows
end Go.Proofs.Ytjdecbfjpkpepaa
