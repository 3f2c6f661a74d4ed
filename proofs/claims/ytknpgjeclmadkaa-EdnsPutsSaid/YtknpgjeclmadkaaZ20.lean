/- DERIVED. Texts put together: A3, A5, A4. -/
import Derived.Test.YtknpgjeclmadkaaZ17
import Derived.Test.YtknpgjeclmadkaaZ19
set_option maxRecDepth 1000000
set_option maxHeartbeats 32000000
namespace Go.Proofs.Ytknpgjeclmadkaa
open Go Go.Joins Go.ChangeShapes Go.WideShapes Go.RowKit Go.Deep
section
variable {H : Type} {enc : TypeId × Value → H} {w : World} {base : Nat} {spare : Nat → Bool} {held : Bool}
theorem zCl {n : Nat} {c : Value} {y : DataW H × List MemPlace} (h : DataW.trod enc Try.prog w base spare held n 3 [c] = some y) : ∃ x : Int, c = .int .i64 x := by
 obtain ⟨a, e, _⟩ := DataW.trod_int Try.underlying3 h
 simp only [List.cons.injEq, and_true] at e
 exact ⟨a, e⟩
theorem zLu {n : Nat} {c : Value} {y : DataW H × List MemPlace} (h : DataW.trod enc Try.prog w base spare held n 9 [c] = some y) : ∃ x : ByteArray, c = .string x := by
 obtain ⟨a, e, _⟩ := DataW.trod_string Try.underlying9 h
 simp only [List.cons.injEq, and_true] at e
 exact ⟨a, e⟩
theorem zPc {n : Nat} {cs : List Value} {y : DataW H × List MemPlace} (h : DataW.trod enc Try.prog w base spare held n 48 cs = some y) : ∃ x : RcX, cs = layR.g x := by
 obtain ⟨_, _, _, _, hl, _⟩ := DataW.trod_struct Try.underlying48 h
 have hl : cs.length = 5 := hl.trans (by kernel_rfl)
 have hf := zFl 8 48 [9, 3, 3, 3, 9] n cs y (by kernel_rfl) h hl
 match cs, hl with
 | [c0, c1, c2, c3, c4], _ =>
  obtain ⟨_, _, h0⟩ := hf 0 _ _ rfl rfl
  obtain ⟨_, _, h1⟩ := hf 1 _ _ rfl rfl
  obtain ⟨_, _, h2⟩ := hf 2 _ _ rfl rfl
  obtain ⟨_, _, h3⟩ := hf 3 _ _ rfl rfl
  obtain ⟨_, _, h4⟩ := hf 4 _ _ rfl rfl
  obtain ⟨x0, rfl⟩ := zLu h0
  obtain ⟨x1, rfl⟩ := zCl h1
  obtain ⟨x2, rfl⟩ := zCl h2
  obtain ⟨x3, rfl⟩ := zCl h3
  obtain ⟨x4, rfl⟩ := zLu h4
  exact ⟨⟨x0, x1, x2, x3, x4⟩, rfl⟩
theorem trod_qu {n : Nat} {cs : List Value} {y : DataW H × List MemPlace} (h : DataW.trod enc Try.prog w base spare held n 57 cs = some y) : ∃ x : QuX, cs = layQ.g x := by
 obtain ⟨_, _, _, _, hl, _⟩ := DataW.trod_struct Try.underlying57 h
 have hl : cs.length = 3 := hl.trans (by kernel_rfl)
 have hf := zFl 8 57 [9, 3, 3] n cs y (by kernel_rfl) h hl
 match cs, hl with
 | [c0, c1, c2], _ =>
  obtain ⟨_, _, h0⟩ := hf 0 _ _ rfl rfl
  obtain ⟨_, _, h1⟩ := hf 1 _ _ rfl rfl
  obtain ⟨_, _, h2⟩ := hf 2 _ _ rfl rfl
  obtain ⟨x0, rfl⟩ := zLu h0
  obtain ⟨x1, rfl⟩ := zCl h1
  obtain ⟨x2, rfl⟩ := zCl h2
  exact ⟨⟨x0, x1, x2⟩, rfl⟩
structure WinM where
 id : Int
 fl : Int
 q : WinL QuX
 an : WinL RcX
 ns : WinL RcX
 ar : WinL RcX
def WinM.good (w : World) (m : WinM) : Prop := m.q.good layQ w ∧ m.an.good layR w ∧ m.ns.good layR w ∧ m.ar.good layR w
def WinM.ms (m : WinM) (k : Nat) : MsL := ⟨m.id, m.fl, m.q.rd k, m.an.rd (k + 1), m.ns.rd (k + 2), m.ar.rd (k + 3)⟩
def WinM.cs (m : WinM) (k : Nat) : List Value := [.int .i64 m.id, .int .i64 m.fl, m.q.sl k, m.an.sl (k + 1), m.ns.sl (k + 2), m.ar.sl (k + 3)]
def WinM.wins (m : WinM) : List Win := [m.q.win layQ, m.an.win layR, m.ns.win layR, m.ar.win layR]
theorem WinM.good.ok {w : World} {m : WinM} (h : m.good w) : ∀ x ∈ m.wins, x.ok w := by
 obtain ⟨h1, h2, h3, h4⟩ := h
 intro x hx
 simp only [WinM.wins, List.mem_cons, List.not_mem_nil, or_false] at hx
 rcases hx with rfl | rfl | rfl | rfl
 ·exact h1.ok
 ·exact h2.ok
 ·exact h3.ok
 ·exact h4.ok
def msTypes : List TypeId := [3, 3, 22, 23, 23, 23]
def WinM.seen (m : WinM) (E : Env) (k : Nat) : Prop := (E.dom k ∧ E.ρ k = m.q.b ∧ E.sh k = m.q.off) ∧ (E.dom (k + 1) ∧ E.ρ (k + 1) = m.an.b ∧ E.sh (k + 1) = m.an.off) ∧ (E.dom (k + 2) ∧ E.ρ (k + 2) = m.ns.b ∧ E.sh (k + 2) = m.ns.off) ∧ E.dom (k + 3) ∧ E.ρ (k + 3) = m.ar.b ∧ E.sh (k + 3) = m.ar.off
end
end Go.Proofs.Ytknpgjeclmadkaa
namespace Go.Proofs.Ytknpgjeclmadkaa
open Go Go.RowKit
theorem WinM.good.fit {w : World} {m : WinM} (h : m.good w) (k : Nat) : (m.ms k).fit := by
 have hmx : maxLen = 9223372036854775807 := by decide
 obtain ⟨⟨_, _, a1, a2⟩, ⟨_, _, b1, b2⟩, ⟨_, _, c1, c2⟩, ⟨_, _, d1, d2⟩⟩ := h
 exact ⟨by show m.q.l.length ≤ _; omega, by show m.an.l.length ≤ _; omega, by show m.ns.l.length ≤ _; omega, by show m.ar.l.length ≤ _; omega⟩
end Go.Proofs.Ytknpgjeclmadkaa
namespace Go.Proofs.Ytknpgjeclmadkaa
open Go Go.Joins Go.ChangeShapes Go.WideShapes Go.RowKit Go.Deep
section
variable {H : Type} {enc : TypeId × Value → H} {w : World} {base : Nat} {spare : Nat → Bool} {held : Bool}
theorem trod_o1 {n : Nat} {c : Value} {y : DataW H × List MemPlace} (h : DataW.trod enc Try.prog w base spare held n 4 [c] = some y) : ∃ x : Bool, c = .bool x := by
 obtain ⟨a, e, _⟩ := DataW.trod_bool Try.underlying4 h
 simp only [List.cons.injEq, and_true] at e
 exact ⟨a, e⟩
end
end Go.Proofs.Ytknpgjeclmadkaa
