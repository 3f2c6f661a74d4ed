/- DERIVED. Texts put together: A3, A5. -/
import Derived.Test.YtcggcoijhdagnaaZ15
import Derived.Test.YtcggcoijhdagnaaZ19
/- DERIVED. A message as an argument of a law. -/
namespace Go.Proofs.Ytcggcoijhdagnaa
open Go Go.Joins Go.ChangeShapes Go.WideShapes Go.RowKit Go.Deep
section
variable {H : Type} {enc : TypeId × Value → H} {w : World} {base : Nat} {spare : Nat → Bool} {held : Bool}
theorem trod_i1 {n : Nat} {c : Value} {y : DataW H × List MemPlace} (h : DataW.trod enc Try.prog w base spare held n 3 [c] = some y) : ∃ x : Int, c = .int .i64 x := by
  obtain ⟨a, e, _⟩ := DataW.trod_int Try.underlying3 h
  simp only [List.cons.injEq, and_true] at e
  exact ⟨a, e⟩
theorem trod_s1 {n : Nat} {c : Value} {y : DataW H × List MemPlace} (h : DataW.trod enc Try.prog w base spare held n 9 [c] = some y) : ∃ x : ByteArray, c = .string x := by
  obtain ⟨a, e, _⟩ := DataW.trod_string Try.underlying9 h
  simp only [List.cons.injEq, and_true] at e
  exact ⟨a, e⟩
set_option maxRecDepth 100000 in
theorem trod_rc {n : Nat} {cs : List Value} {y : DataW H × List MemPlace} (h : DataW.trod enc Try.prog w base spare held n 69 cs = some y) : ∃ x : RcX, cs = layR.g x := by
  obtain ⟨_, _, _, _, hl, _⟩ := DataW.trod_struct Try.underlying69 h
  have hl : cs.length = 5 := hl.trans (by kernel_rfl)
  have hf := flat_open 8 69 [9, 3, 3, 3, 9] n cs y (by kernel_rfl) h hl
  match cs, hl with
  | [c0, c1, c2, c3, c4], _ =>
    obtain ⟨_, _, h0⟩ := hf 0 _ _ rfl rfl
    obtain ⟨_, _, h1⟩ := hf 1 _ _ rfl rfl
    obtain ⟨_, _, h2⟩ := hf 2 _ _ rfl rfl
    obtain ⟨_, _, h3⟩ := hf 3 _ _ rfl rfl
    obtain ⟨_, _, h4⟩ := hf 4 _ _ rfl rfl
    obtain ⟨x0, rfl⟩ := trod_s1 h0
    obtain ⟨x1, rfl⟩ := trod_i1 h1
    obtain ⟨x2, rfl⟩ := trod_i1 h2
    obtain ⟨x3, rfl⟩ := trod_i1 h3
    obtain ⟨x4, rfl⟩ := trod_s1 h4
    exact ⟨⟨x0, x1, x2, x3, x4⟩, rfl⟩
set_option maxRecDepth 100000 in
theorem trod_qu {n : Nat} {cs : List Value} {y : DataW H × List MemPlace} (h : DataW.trod enc Try.prog w base spare held n 57 cs = some y) : ∃ x : QuX, cs = layQ.g x := by
  obtain ⟨_, _, _, _, hl, _⟩ := DataW.trod_struct Try.underlying57 h
  have hl : cs.length = 3 := hl.trans (by kernel_rfl)
  have hf := flat_open 8 57 [9, 3, 3] n cs y (by kernel_rfl) h hl
  match cs, hl with
  | [c0, c1, c2], _ =>
    obtain ⟨_, _, h0⟩ := hf 0 _ _ rfl rfl
    obtain ⟨_, _, h1⟩ := hf 1 _ _ rfl rfl
    obtain ⟨_, _, h2⟩ := hf 2 _ _ rfl rfl
    obtain ⟨x0, rfl⟩ := trod_s1 h0
    obtain ⟨x1, rfl⟩ := trod_i1 h1
    obtain ⟨x2, rfl⟩ := trod_i1 h2
    exact ⟨⟨x0, x1, x2⟩, rfl⟩
/-- A message, as it is found at a law's entry. -/
structure WinM where
  id : Int
  fl : Int
  q : WinL QuX
  an : WinL RcX
  ns : WinL RcX
  ar : WinL RcX
def WinM.good (w : World) (m : WinM) : Prop := m.q.good layQ w ∧ m.an.good layR w ∧ m.ns.good layR w ∧ m.ar.good layR w
def WinM.ms (m : WinM) (k : Nat) : MsL := ⟨m.id, m.fl, m.q.rd k, m.an.rd (k + 1), m.ns.rd (k + 2), m.ar.rd (k + 3)⟩
def WinM.cs (m : WinM) (k : Nat) : List Value := [.int .i64 m.id, .int .i64 m.fl, m.q.sl k, m.an.sl (k + 1), m.ns.sl (k + 2), m.ar.sl (k + 3)]
def WinM.wins (m : WinM) : List Win := [m.q.win layQ, m.an.win layR, m.ns.win layR, m.ar.win layR]
theorem WinM.good.ok {w : World} {m : WinM} (h : m.good w) : ∀ x ∈ m.wins, x.ok w := by
  obtain ⟨h1, h2, h3, h4⟩ := h
  intro x hx
  simp only [WinM.wins, List.mem_cons, List.not_mem_nil, or_false] at hx
  rcases hx with rfl | rfl | rfl | rfl
  · exact h1.ok
  · exact h2.ok
  · exact h3.ok
  · exact h4.ok
def msTypes : List TypeId := [3, 3, 22, 23, 23, 23]
/-- In this world these names are this message's lists. -/
def WinM.seen (m : WinM) (E : Env) (k : Nat) : Prop := (E.dom k ∧ E.ρ k = m.q.b ∧ E.sh k = m.q.off) ∧ (E.dom (k + 1) ∧ E.ρ (k + 1) = m.an.b ∧ E.sh (k + 1) = m.an.off) ∧ (E.dom (k + 2) ∧ E.ρ (k + 2) = m.ns.b ∧ E.sh (k + 2) = m.ns.off) ∧ E.dom (k + 3) ∧ E.ρ (k + 3) = m.ar.b ∧ E.sh (k + 3) = m.ar.off
set_option maxRecDepth 100000 in
theorem open_ms {r : Reach} {b0 : Nat} (hpos : 0 < w.heap.size) (cs : List Value) (hl : cs.length = 6) (h : ∀ (i : Nat) (u : TypeId) (c : Value), msTypes[i]? = some u → cs[i]? = some c → Cell.okWide Try.prog w r b0 u c ∧ ∃ k y, DataW.trod enc Try.prog w base spare held k u [c] = some y) :
    ∃ m : WinM, m.good w ∧ ∀ (E : Env) (k : Nat), m.seen E k → VL E (m.cs k) cs := by
  match cs, hl with
  | [c0, c1, c2, c3, c4, c5], _ =>
    obtain ⟨_, _, _, h0⟩ := h 0 _ _ rfl rfl
    obtain ⟨_, _, _, h1⟩ := h 1 _ _ rfl rfl
    obtain ⟨o2, _, _, h2⟩ := h 2 _ _ rfl rfl
    obtain ⟨o3, _, _, h3⟩ := h 3 _ _ rfl rfl
    obtain ⟨o4, _, _, h4⟩ := h 4 _ _ rfl rfl
    obtain ⟨o5, _, _, h5⟩ := h 5 _ _ rfl rfl
    obtain ⟨x0, rfl⟩ := trod_i1 h0
    obtain ⟨x1, rfl⟩ := trod_i1 h1
    obtain ⟨q, g2, e2⟩ := open_winl layQ Try.underlying22 (by kernel_rfl) (fun _ _ _ hy => trod_qu hy) o2 h2 hpos
    obtain ⟨an, g3, e3⟩ := open_winl layR Try.underlying23 (by kernel_rfl) (fun _ _ _ hy => trod_rc hy) o3 h3 hpos
    obtain ⟨ns, g4, e4⟩ := open_winl layR Try.underlying23 (by kernel_rfl) (fun _ _ _ hy => trod_rc hy) o4 h4 hpos
    obtain ⟨ar, g5, e5⟩ := open_winl layR Try.underlying23 (by kernel_rfl) (fun _ _ _ hy => trod_rc hy) o5 h5 hpos
    exact ⟨⟨x0, x1, q, an, ns, ar⟩, ⟨g2, g3, g4, g5⟩, fun E k ⟨⟨a1, a2, a3⟩, ⟨b1, b2, b3⟩, ⟨c1, c2, c3⟩, d1, d2, d3⟩ =>
      .cons _ _ _ _ (.int _ _) (.cons _ _ _ _ (.int _ _) (.cons _ _ _ _ (e2 E _ a1 a2 a3) (.cons _ _ _ _ (e3 E _ b1 b2 b3) (.cons _ _ _ _ (e4 E _ c1 c2 c3) (.cons _ _ _ _ (e5 E _ d1 d2 d3) .nil)))))⟩
set_option maxRecDepth 100000 in
theorem open_msg {r : Reach} {b0 : Nat} {v : Value} {d : DataW H} {p : List MemPlace} (hpos : 0 < w.heap.size) (hv : Value.okWide Try.prog w r b0 25 v) (h : DataW.Trod enc Try.prog w base spare held 25 v d p) :
    ∃ m : WinM, m.good w ∧ ∀ (E : Env) (k : Nat), m.seen E k → VR E (.agg ⟨m.cs k⟩) v := by
  obtain ⟨cs, rfl, hl, hf⟩ := open_flat (ts := msTypes) Try.underlying25 (by kernel_rfl) (by kernel_rfl) (by kernel_rfl) hv h
  obtain ⟨m, h1, h2⟩ := open_ms hpos cs hl hf
  exact ⟨m, h1, fun E k hk => .agg _ _ (h2 E k hk)⟩
end
end Go.Proofs.Ytcggcoijhdagnaa
/- DERIVED. A message at a law's entry meets what its walks ask. -/
namespace Go.Proofs.Ytcggcoijhdagnaa
open Go Go.RowKit
theorem WinM.at0 (m : WinM) : (m.ms 0).at (m.ms 0).heap := ⟨⟨seesB_of (by kernel_rfl), rfl, rfl⟩, ⟨seesB_of (by kernel_rfl), rfl, rfl⟩, ⟨seesB_of (by kernel_rfl), rfl, rfl⟩, ⟨seesB_of (by kernel_rfl), rfl, rfl⟩⟩
theorem WinM.good.fit {w : World} {m : WinM} (h : m.good w) (k : Nat) : (m.ms k).fit := by
  have hmx : maxLen = 9223372036854775807 := by decide
  obtain ⟨⟨_, _, a1, a2⟩, ⟨_, _, b1, b2⟩, ⟨_, _, c1, c2⟩, ⟨_, _, d1, d2⟩⟩ := h
  exact ⟨by show m.q.l.length ≤ _; omega, by show m.an.l.length ≤ _; omega, by show m.ns.l.length ≤ _; omega, by show m.ar.l.length ≤ _; omega⟩
end Go.Proofs.Ytcggcoijhdagnaa
