/- DERIVED. Texts put together: A3, A5. -/
import Derived.Test.YtblhnenhonfpnaaZ19
import Derived.Test.YtblhnenhonfpnaaZ22
set_option maxRecDepth 1000000
set_option maxHeartbeats 32000000
namespace Go.Proofs.Ytblhnenhonfpnaa
open Go Go.Joins Go.ChangeShapes Go.WideShapes Go.RowKit Go.Deep
section
variable {H : Type} {enc : TypeId × Value → H} {w : World} {base : Nat} {spare : Nat → Bool} {held : Bool}
theorem zOv {n : Nat} {c : Value} {y : DataW H × List MemPlace} (h : DataW.trod enc Try.prog w base spare held n 3 [c] = some y) : ∃ x : Int, c = .int .i64 x := by
 obtain ⟨a, e, _⟩ := DataW.trod_int Try.underlying3 h
 simp only [List.cons.injEq, and_true] at e
 exact ⟨a, e⟩
structure WinM where
 id : Int
 fl : Int
 q : WinL QuX
 an : WinL RcX
 ns : WinL RcX
 ar : WinL RcX
def WinM.cs (m : WinM) (k : Nat) : List Value := [.int .i64 m.id, .int .i64 m.fl, m.q.sl k, m.an.sl (k + 1), m.ns.sl (k + 2), m.ar.sl (k + 3)]
def WinM.seen (m : WinM) (E : Env) (k : Nat) : Prop := (E.dom k ∧ E.ρ k = m.q.b ∧ E.sh k = m.q.off) ∧ (E.dom (k + 1) ∧ E.ρ (k + 1) = m.an.b ∧ E.sh (k + 1) = m.an.off) ∧ (E.dom (k + 2) ∧ E.ρ (k + 2) = m.ns.b ∧ E.sh (k + 2) = m.ns.off) ∧ E.dom (k + 3) ∧ E.ρ (k + 3) = m.ar.b ∧ E.sh (k + 3) = m.ar.off
end
end Go.Proofs.Ytblhnenhonfpnaa
namespace Go.Proofs.Ytblhnenhonfpnaa
open Go Go.RowKit
end Go.Proofs.Ytblhnenhonfpnaa
