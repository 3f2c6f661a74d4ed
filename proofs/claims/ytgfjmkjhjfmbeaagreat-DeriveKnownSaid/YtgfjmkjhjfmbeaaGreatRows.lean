/-
  No cell of these rows narrows 'for every input' (looked for: loops, veiled, ifaces, maps, wideKeys, modest, calm, conditions, laid).
  DERIVED. THE GIVEN ROWS OF THIS SEAT. 4 by the template 'for every input the law returns true; each argument reads behind the call as it read before'; 0 by the template 'total and deterministic' (their statements: YtgfjmkjhjfmbeaaGreatTotals.lean).
  GIVEN WITH THE SEED: the statements are not yours to turn. If you find one false, say at which input.
  Laid BY PROGRAM, IN A SANDBOX (cutbox-rows.mjs): the forced cells as the released guide's own fill.sh prints them over the translation 21df2a2cb0ee565a… (all of the seat's roots in one cut). By AI agents, Wed Nov 11 2026. No macro, syntax, notation, axiom, sorry.
-/
import Derived.Test.YtgfjmkjhjfmbeaaGreatChecked
import GoSem.Claim
import GoSem.ClaimJoined
import GoSem.ClaimMapViews
import Derived.JoinedTies
import Derived.KernelRfl
namespace Go.Proofs.YtgfjmkjhjfmbeaaGreat
/- THE CELL 'sum', in the pinned program and in every row, IS THE sha256 OF THE DUMP (.gsa) THAT YtgfjmkjhjfmbeaaGreatProg.lean LOADS. Nothing in Lean hashes anything: it is a label: what it is worth is what the hold of that sum in a sandbox is worth. -/
noncomputable def Tryz.pinned : Pinned := { name := "ytgfjmkjhjfmbeaagreat", sum := "21df2a2cb0ee565a8e1bc41792893c2b278c689d03027da8908b4b4733b645db", checked := Tryz.checked }
namespace Rows
def none {H : Type} : Left H := { results := [], args := [] }

/-- 'ostiarylaw31.DeriveGrounds': WHATEVER THE INPUT: true; the input reads as it did. -/
def deriveGroundsSpec : ChangeSpec := { name := "deriveGrounds", fn := fun _ => fun
  | [d1, d2] => { results := [.lit (.bool true)], args := [d1, d2] }
  | _ => none }
def deriveGroundsRow : OpenClaim := { program := "ytgfjmkjhjfmbeaagreat", sum := "21df2a2cb0ee565a8e1bc41792893c2b278c689d03027da8908b4b4733b645db", func := "ostiary/ostiarylaw31.DeriveGrounds", spec := "deriveGrounds", unfollowed := true, recurses := true, plainKeys := false, apart := false }
def DeriveGroundsSaid : Prop := deriveGroundsRow.holds Tryz.pinned (OpenSpec.ofChange deriveGroundsSpec)

/-- ITS FALSE NEIGHBOUR: 'it returns false'. Refute it at one input. -/
def deriveGroundsWrong : ChangeSpec := { name := "deriveGrounds", fn := fun _ => fun
  | [d1, d2] => { results := [.lit (.bool false)], args := [d1, d2] }
  | _ => none }
def DeriveGroundsWrongFalsely : Prop := deriveGroundsRow.holds Tryz.pinned (OpenSpec.ofChange deriveGroundsWrong)

/-- 'ostiarylaw31.DeriveTells': WHATEVER THE INPUT: true; the input reads as it did. -/
def deriveTellsSpec : ChangeSpec := { name := "deriveTells", fn := fun _ => fun
  | [d1, d2, d3, d4, d5] => { results := [.lit (.bool true)], args := [d1, d2, d3, d4, d5] }
  | _ => none }
def deriveTellsRow : OpenClaim := { program := "ytgfjmkjhjfmbeaagreat", sum := "21df2a2cb0ee565a8e1bc41792893c2b278c689d03027da8908b4b4733b645db", func := "ostiary/ostiarylaw31.DeriveTells", spec := "deriveTells", unfollowed := true, recurses := true, plainKeys := false, apart := false }
def DeriveTellsSaid : Prop := deriveTellsRow.holds Tryz.pinned (OpenSpec.ofChange deriveTellsSpec)

/-- ITS FALSE NEIGHBOUR: 'it returns false'. Refute it at one input. -/
def deriveTellsWrong : ChangeSpec := { name := "deriveTells", fn := fun _ => fun
  | [d1, d2, d3, d4, d5] => { results := [.lit (.bool false)], args := [d1, d2, d3, d4, d5] }
  | _ => none }
def DeriveTellsWrongFalsely : Prop := deriveTellsRow.holds Tryz.pinned (OpenSpec.ofChange deriveTellsWrong)

/-- 'ostiarylaw31.DeriveMore': WHATEVER THE INPUT: true; the input reads as it did. -/
def deriveMoreSpec : ChangeSpec := { name := "deriveMore", fn := fun _ => fun
  | [d1, d2, d3, d4, d5, d6] => { results := [.lit (.bool true)], args := [d1, d2, d3, d4, d5, d6] }
  | _ => none }
def deriveMoreRow : OpenClaim := { program := "ytgfjmkjhjfmbeaagreat", sum := "21df2a2cb0ee565a8e1bc41792893c2b278c689d03027da8908b4b4733b645db", func := "ostiary/ostiarylaw31.DeriveMore", spec := "deriveMore", unfollowed := true, recurses := true, plainKeys := false, apart := false }
def DeriveMoreSaid : Prop := deriveMoreRow.holds Tryz.pinned (OpenSpec.ofChange deriveMoreSpec)

/-- ITS FALSE NEIGHBOUR: 'it returns false'. Refute it at one input. -/
def deriveMoreWrong : ChangeSpec := { name := "deriveMore", fn := fun _ => fun
  | [d1, d2, d3, d4, d5, d6] => { results := [.lit (.bool false)], args := [d1, d2, d3, d4, d5, d6] }
  | _ => none }
def DeriveMoreWrongFalsely : Prop := deriveMoreRow.holds Tryz.pinned (OpenSpec.ofChange deriveMoreWrong)

/-- 'ostiarylaw31.DeriveKnown': WHATEVER THE INPUT: true; the input reads as it did. -/
def deriveKnownSpec : ChangeSpec := { name := "deriveKnown", fn := fun _ => fun
  | [] => { results := [.lit (.bool true)], args := [] }
  | _ => none }
def deriveKnownRow : OpenClaim := { program := "ytgfjmkjhjfmbeaagreat", sum := "21df2a2cb0ee565a8e1bc41792893c2b278c689d03027da8908b4b4733b645db", func := "ostiary/ostiarylaw31.DeriveKnown", spec := "deriveKnown", unfollowed := true, recurses := true, plainKeys := false, apart := false }
def DeriveKnownSaid : Prop := deriveKnownRow.holds Tryz.pinned (OpenSpec.ofChange deriveKnownSpec)

/-- ITS FALSE NEIGHBOUR: 'it returns false'. Refute it at one input. -/
def deriveKnownWrong : ChangeSpec := { name := "deriveKnown", fn := fun _ => fun
  | [] => { results := [.lit (.bool false)], args := [] }
  | _ => none }
def DeriveKnownWrongFalsely : Prop := deriveKnownRow.holds Tryz.pinned (OpenSpec.ofChange deriveKnownWrong)

/- THE SECOND FORM. 'bulk': how many values and letters a reading holds, each counted each time it is reached (what is shared counts as often as it is met; a slice's spare places count too). A statement '..UptoSaid' is the law's where the arguments, and the package variables that the reading takes, are together of bulk at most 1048576: NARROWER than '..Said'. Prove '..Said' where nothing that the law and all that it calls make is longer than what came in: it says more and counts as full. Else prove '..UptoSaid'. A law counts once. -/
mutual
def uptoBulk {H : Type} : DataW H → Nat
  | .lit (.string bytes) => bytes.length + 1
  | .lit _ => 1
  | .nil => 1
  | .ptr d => uptoBulk d + 1
  | .slice elems spare => uptoBulkAll elems + uptoBulkAll spare + 1
  | .agg parts => uptoBulkAll parts + 1
  | .iface _ d => uptoBulk d + 1
  | .map entries => uptoBulkEntries entries + 1
  | .held _ => 1
def uptoBulkAll {H : Type} : List (DataW H) → Nat
  | [] => 0
  | d :: r => uptoBulk d + uptoBulkAll r
def uptoBulkEntries {H : Type} : List (Lit × DataW H) → Nat
  | [] => 0
  | x :: r => uptoBulkEntry x + uptoBulkEntries r
def uptoBulkEntry {H : Type} : Lit × DataW H → Nat
  | (.string bytes, d) => bytes.length + uptoBulk d + 1
  | (_, d) => uptoBulk d + 1
 end
def uptoSmall : (H : Type) → List (DataW H) → Bool := fun _ ds => decide (uptoBulkAll ds ≤ 1048576)
def OpenSpec.upto (s : _root_.Go.ChangeSpec) : _root_.Go.OpenSpec := { _root_.Go.OpenSpec.ofChange s with cond := some uptoSmall }

/-- 'ostiarylaw31.DeriveGrounds', WHERE WHAT IT READS IS OF BULK AT MOST 1048576: true; the input reads as it did. -/
def deriveGroundsUptoRow : OpenClaim := { program := "ytgfjmkjhjfmbeaagreat", sum := "21df2a2cb0ee565a8e1bc41792893c2b278c689d03027da8908b4b4733b645db", func := "ostiary/ostiarylaw31.DeriveGrounds", spec := "deriveGrounds", unfollowed := true, recurses := true, plainKeys := false, apart := false, narrowed := true }
def DeriveGroundsUptoSaid : Prop := deriveGroundsUptoRow.holds Tryz.pinned (OpenSpec.upto deriveGroundsSpec)

/-- 'ostiarylaw31.DeriveTells', WHERE WHAT IT READS IS OF BULK AT MOST 1048576: true; the input reads as it did. -/
def deriveTellsUptoRow : OpenClaim := { program := "ytgfjmkjhjfmbeaagreat", sum := "21df2a2cb0ee565a8e1bc41792893c2b278c689d03027da8908b4b4733b645db", func := "ostiary/ostiarylaw31.DeriveTells", spec := "deriveTells", unfollowed := true, recurses := true, plainKeys := false, apart := false, narrowed := true }
def DeriveTellsUptoSaid : Prop := deriveTellsUptoRow.holds Tryz.pinned (OpenSpec.upto deriveTellsSpec)

/-- 'ostiarylaw31.DeriveMore', WHERE WHAT IT READS IS OF BULK AT MOST 1048576: true; the input reads as it did. -/
def deriveMoreUptoRow : OpenClaim := { program := "ytgfjmkjhjfmbeaagreat", sum := "21df2a2cb0ee565a8e1bc41792893c2b278c689d03027da8908b4b4733b645db", func := "ostiary/ostiarylaw31.DeriveMore", spec := "deriveMore", unfollowed := true, recurses := true, plainKeys := false, apart := false, narrowed := true }
def DeriveMoreUptoSaid : Prop := deriveMoreUptoRow.holds Tryz.pinned (OpenSpec.upto deriveMoreSpec)

/-- 'ostiarylaw31.DeriveKnown', WHERE WHAT IT READS IS OF BULK AT MOST 1048576: true; the input reads as it did. -/
def deriveKnownUptoRow : OpenClaim := { program := "ytgfjmkjhjfmbeaagreat", sum := "21df2a2cb0ee565a8e1bc41792893c2b278c689d03027da8908b4b4733b645db", func := "ostiary/ostiarylaw31.DeriveKnown", spec := "deriveKnown", unfollowed := true, recurses := true, plainKeys := false, apart := false, narrowed := true }
def DeriveKnownUptoSaid : Prop := deriveKnownUptoRow.holds Tryz.pinned (OpenSpec.upto deriveKnownSpec)

end Rows
end Go.Proofs.YtgfjmkjhjfmbeaaGreat
