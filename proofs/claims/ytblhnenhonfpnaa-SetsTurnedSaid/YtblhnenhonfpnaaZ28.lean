/- DERIVED. Texts put together: A3, A5. -/
import Derived.Test.YtblhnenhonfpnaaZ19
import Derived.Test.YtblhnenhonfpnaaZ27
set_option maxRecDepth 1000000
set_option maxHeartbeats 32000000
namespace Go.Proofs.Ytblhnenhonfpnaa
open Go Go.Joins Go.ChangeShapes Go.WideShapes Go.RowKit Go.Deep
section
variable {H : Type} {enc : TypeId × Value → H} {w : World} {base : Nat} {spare : Nat → Bool} {held : Bool}
theorem zPl {n : Nat} {c : Value} {y : DataW H × List MemPlace} (h : DataW.trod enc Try.prog w base spare held n 3 [c] = some y) : ∃ x : Int, c = .int .i64 x := by
 obtain ⟨a, e, _⟩ := DataW.trod_int Try.underlying3 h
 simp only [List.cons.injEq, and_true] at e
 exact ⟨a, e⟩
theorem trod_s1 {n : Nat} {c : Value} {y : DataW H × List MemPlace} (h : DataW.trod enc Try.prog w base spare held n 9 [c] = some y) : ∃ x : ByteArray, c = .string x := by
 obtain ⟨a, e, _⟩ := DataW.trod_string Try.underlying9 h
 simp only [List.cons.injEq, and_true] at e
 exact ⟨a, e⟩
theorem trod_rc {n : Nat} {cs : List Value} {y : DataW H × List MemPlace} (h : DataW.trod enc Try.prog w base spare held n 39 cs = some y) : ∃ x : RcX, cs = layR.g x := by
 obtain ⟨_, _, _, _, hl, _⟩ := DataW.trod_struct Try.underlying39 h
 have hl : cs.length = 5 := hl.trans (by kernel_rfl)
 have hf := zMd 8 39 [9, 3, 3, 3, 9] n cs y (by kernel_rfl) h hl
 match cs, hl with
 | [c0, c1, c2, c3, c4], _ =>
  obtain ⟨_, _, h0⟩ := hf 0 _ _ rfl rfl
  obtain ⟨_, _, h1⟩ := hf 1 _ _ rfl rfl
  obtain ⟨_, _, h2⟩ := hf 2 _ _ rfl rfl
  obtain ⟨_, _, h3⟩ := hf 3 _ _ rfl rfl
  obtain ⟨_, _, h4⟩ := hf 4 _ _ rfl rfl
  obtain ⟨x0, rfl⟩ := trod_s1 h0
  obtain ⟨x1, rfl⟩ := zPl h1
  obtain ⟨x2, rfl⟩ := zPl h2
  obtain ⟨x3, rfl⟩ := zPl h3
  obtain ⟨x4, rfl⟩ := trod_s1 h4
  exact ⟨⟨x0, x1, x2, x3, x4⟩, rfl⟩
structure WinM where
 id : Int
 fl : Int
 q : WinL QuX
 an : WinL RcX
 ns : WinL RcX
 ar : WinL RcX
def WinM.cs (m : WinM) (k : Nat) : List Value := [.int .i64 m.id, .int .i64 m.fl, m.q.sl k, m.an.sl (k + 1), m.ns.sl (k + 2), m.ar.sl (k + 3)]
def WinM.seen (m : WinM) (E : Env) (k : Nat) : Prop := (E.dom k ∧ E.ρ k = m.q.b ∧ E.sh k = m.q.off) ∧ (E.dom (k + 1) ∧ E.ρ (k + 1) = m.an.b ∧ E.sh (k + 1) = m.an.off) ∧ (E.dom (k + 2) ∧ E.ρ (k + 2) = m.ns.b ∧ E.sh (k + 2) = m.ns.off) ∧ E.dom (k + 3) ∧ E.ρ (k + 3) = m.ar.b ∧ E.sh (k + 3) = m.ar.off
end
end Go.Proofs.Ytblhnenhonfpnaa
namespace Go.Proofs.Ytblhnenhonfpnaa
open Go Go.RowKit
end Go.Proofs.Ytblhnenhonfpnaa
