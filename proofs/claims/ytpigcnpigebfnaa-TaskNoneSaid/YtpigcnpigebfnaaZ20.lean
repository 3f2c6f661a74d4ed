/- DERIVED. Texts put together: A3, A5. -/
import Derived.Test.YtpigcnpigebfnaaZ15
import Derived.Test.YtpigcnpigebfnaaZ19
set_option maxRecDepth 1000000
set_option maxHeartbeats 32000000
namespace Go.Proofs.Ytpigcnpigebfnaa
open Go Go.Joins Go.ChangeShapes Go.WideShapes Go.RowKit Go.Deep
section
variable {H : Type} {enc : TypeId × Value → H} {w : World} {base : Nat} {spare : Nat → Bool} {held : Bool}
theorem zBa {n : Nat} {c : Value} {y : DataW H × List MemPlace} (h : DataW.trod enc Try.prog w base spare held n 3 [c] = some y) : ∃ x : Int, c = .int .i64 x := by
 obtain ⟨a, e, _⟩ := DataW.trod_int Try.underlying3 h
 simp only [List.cons.injEq, and_true] at e
 exact ⟨a, e⟩
end
end Go.Proofs.Ytpigcnpigebfnaa
namespace Go.Proofs.Ytpigcnpigebfnaa
open Go Go.RowKit
end Go.Proofs.Ytpigcnpigebfnaa
