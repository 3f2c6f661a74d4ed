/- DERIVED. Texts put together: A3, A4, A5. -/
import Derived.Test.YtjbcamcegnjnaaaGreatZ15
import Derived.Test.YtjbcamcegnjnaaaGreatZ19
/- DERIVED. A message as an argument of a law. -/
namespace Go.Proofs.YtjbcamcegnjnaaaGreat
open Go Go.Joins Go.ChangeShapes Go.WideShapes Go.RowKit Go.Deep
section
variable {H : Type} {enc : TypeId × Value → H} {w : World} {base : Nat} {spare : Nat → Bool} {held : Bool}
theorem trod_i1 {n : Nat} {c : Value} {y : DataW H × List MemPlace} (h : DataW.trod enc Tryz.prog w base spare held n 3 [c] = some y) : ∃ x : Int, c = .int .i64 x := by
  obtain ⟨a, e, _⟩ := DataW.trod_int Tryz.underlying3 h
  simp only [List.cons.injEq, and_true] at e
  exact ⟨a, e⟩
theorem trod_s1 {n : Nat} {c : Value} {y : DataW H × List MemPlace} (h : DataW.trod enc Tryz.prog w base spare held n 9 [c] = some y) : ∃ x : ByteArray, c = .string x := by
  obtain ⟨a, e, _⟩ := DataW.trod_string Tryz.underlying9 h
  simp only [List.cons.injEq, and_true] at e
  exact ⟨a, e⟩
set_option maxRecDepth 100000 in
theorem trod_rc {n : Nat} {cs : List Value} {y : DataW H × List MemPlace} (h : DataW.trod enc Tryz.prog w base spare held n 66 cs = some y) : ∃ x : RcX, cs = layR.g x := by
  obtain ⟨_, _, _, _, hl, _⟩ := DataW.trod_struct Tryz.underlying66 h
  have hl : cs.length = 5 := hl.trans (by kernel_rfl)
  have hf := flat_open 8 66 [9, 3, 3, 3, 9] n cs y (by kernel_rfl) h hl
  match cs, hl with
  | [c0, c1, c2, c3, c4], _ =>
    obtain ⟨_, _, h0⟩ := hf 0 _ _ rfl rfl
    obtain ⟨_, _, h1⟩ := hf 1 _ _ rfl rfl
    obtain ⟨_, _, h2⟩ := hf 2 _ _ rfl rfl
    obtain ⟨_, _, h3⟩ := hf 3 _ _ rfl rfl
    obtain ⟨_, _, h4⟩ := hf 4 _ _ rfl rfl
    obtain ⟨x0, rfl⟩ := trod_s1 h0
    obtain ⟨x1, rfl⟩ := trod_i1 h1
    obtain ⟨x2, rfl⟩ := trod_i1 h2
    obtain ⟨x3, rfl⟩ := trod_i1 h3
    obtain ⟨x4, rfl⟩ := trod_s1 h4
    exact ⟨⟨x0, x1, x2, x3, x4⟩, rfl⟩
set_option maxRecDepth 100000 in
theorem trod_qu {n : Nat} {cs : List Value} {y : DataW H × List MemPlace} (h : DataW.trod enc Tryz.prog w base spare held n 39 cs = some y) : ∃ x : QuX, cs = layQ.g x := by
  obtain ⟨_, _, _, _, hl, _⟩ := DataW.trod_struct Tryz.underlying39 h
  have hl : cs.length = 3 := hl.trans (by kernel_rfl)
  have hf := flat_open 8 39 [9, 3, 3] n cs y (by kernel_rfl) h hl
  match cs, hl with
  | [c0, c1, c2], _ =>
    obtain ⟨_, _, h0⟩ := hf 0 _ _ rfl rfl
    obtain ⟨_, _, h1⟩ := hf 1 _ _ rfl rfl
    obtain ⟨_, _, h2⟩ := hf 2 _ _ rfl rfl
    obtain ⟨x0, rfl⟩ := trod_s1 h0
    obtain ⟨x1, rfl⟩ := trod_i1 h1
    obtain ⟨x2, rfl⟩ := trod_i1 h2
    exact ⟨⟨x0, x1, x2⟩, rfl⟩
/-- A message, as it is found at a law's entry. -/
structure WinM where
  id : Int
  fl : Int
  q : WinL QuX
  an : WinL RcX
  ns : WinL RcX
  ar : WinL RcX
def WinM.good (w : World) (m : WinM) : Prop := m.q.good layQ w ∧ m.an.good layR w ∧ m.ns.good layR w ∧ m.ar.good layR w
def WinM.ms (m : WinM) (k : Nat) : MsL := ⟨m.id, m.fl, m.q.rd k, m.an.rd (k + 1), m.ns.rd (k + 2), m.ar.rd (k + 3)⟩
def WinM.cs (m : WinM) (k : Nat) : List Value := [.int .i64 m.id, .int .i64 m.fl, m.q.sl k, m.an.sl (k + 1), m.ns.sl (k + 2), m.ar.sl (k + 3)]
def WinM.wins (m : WinM) : List Win := [m.q.win layQ, m.an.win layR, m.ns.win layR, m.ar.win layR]
theorem WinM.good.ok {w : World} {m : WinM} (h : m.good w) : ∀ x ∈ m.wins, x.ok w := by
  obtain ⟨h1, h2, h3, h4⟩ := h
  intro x hx
  simp only [WinM.wins, List.mem_cons, List.not_mem_nil, or_false] at hx
  rcases hx with rfl | rfl | rfl | rfl
  · exact h1.ok
  · exact h2.ok
  · exact h3.ok
  · exact h4.ok
def msTypes : List TypeId := [3, 3, 47, 48, 48, 48]
/-- In this world these names are this message's lists. -/
def WinM.seen (m : WinM) (E : Env) (k : Nat) : Prop := (E.dom k ∧ E.ρ k = m.q.b ∧ E.sh k = m.q.off) ∧ (E.dom (k + 1) ∧ E.ρ (k + 1) = m.an.b ∧ E.sh (k + 1) = m.an.off) ∧ (E.dom (k + 2) ∧ E.ρ (k + 2) = m.ns.b ∧ E.sh (k + 2) = m.ns.off) ∧ E.dom (k + 3) ∧ E.ρ (k + 3) = m.ar.b ∧ E.sh (k + 3) = m.ar.off
set_option maxRecDepth 100000 in
theorem open_ms {r : Reach} {b0 : Nat} (hpos : 0 < w.heap.size) (cs : List Value) (hl : cs.length = 6) (h : ∀ (i : Nat) (u : TypeId) (c : Value), msTypes[i]? = some u → cs[i]? = some c → Cell.okWide Tryz.prog w r b0 u c ∧ ∃ k y, DataW.trod enc Tryz.prog w base spare held k u [c] = some y) :
    ∃ m : WinM, m.good w ∧ ∀ (E : Env) (k : Nat), m.seen E k → VL E (m.cs k) cs := by
  match cs, hl with
  | [c0, c1, c2, c3, c4, c5], _ =>
    obtain ⟨_, _, _, h0⟩ := h 0 _ _ rfl rfl
    obtain ⟨_, _, _, h1⟩ := h 1 _ _ rfl rfl
    obtain ⟨o2, _, _, h2⟩ := h 2 _ _ rfl rfl
    obtain ⟨o3, _, _, h3⟩ := h 3 _ _ rfl rfl
    obtain ⟨o4, _, _, h4⟩ := h 4 _ _ rfl rfl
    obtain ⟨o5, _, _, h5⟩ := h 5 _ _ rfl rfl
    obtain ⟨x0, rfl⟩ := trod_i1 h0
    obtain ⟨x1, rfl⟩ := trod_i1 h1
    obtain ⟨q, g2, e2⟩ := open_winl layQ Tryz.underlying47 (by kernel_rfl) (fun _ _ _ hy => trod_qu hy) o2 h2 hpos
    obtain ⟨an, g3, e3⟩ := open_winl layR Tryz.underlying48 (by kernel_rfl) (fun _ _ _ hy => trod_rc hy) o3 h3 hpos
    obtain ⟨ns, g4, e4⟩ := open_winl layR Tryz.underlying48 (by kernel_rfl) (fun _ _ _ hy => trod_rc hy) o4 h4 hpos
    obtain ⟨ar, g5, e5⟩ := open_winl layR Tryz.underlying48 (by kernel_rfl) (fun _ _ _ hy => trod_rc hy) o5 h5 hpos
    exact ⟨⟨x0, x1, q, an, ns, ar⟩, ⟨g2, g3, g4, g5⟩, fun E k ⟨⟨a1, a2, a3⟩, ⟨b1, b2, b3⟩, ⟨c1, c2, c3⟩, d1, d2, d3⟩ =>
      .cons _ _ _ _ (.int _ _) (.cons _ _ _ _ (.int _ _) (.cons _ _ _ _ (e2 E _ a1 a2 a3) (.cons _ _ _ _ (e3 E _ b1 b2 b3) (.cons _ _ _ _ (e4 E _ c1 c2 c3) (.cons _ _ _ _ (e5 E _ d1 d2 d3) .nil)))))⟩
set_option maxRecDepth 100000 in
theorem open_msg {r : Reach} {b0 : Nat} {v : Value} {d : DataW H} {p : List MemPlace} (hpos : 0 < w.heap.size) (hv : Value.okWide Tryz.prog w r b0 50 v) (h : DataW.Trod enc Tryz.prog w base spare held 50 v d p) :
    ∃ m : WinM, m.good w ∧ ∀ (E : Env) (k : Nat), m.seen E k → VR E (.agg ⟨m.cs k⟩) v := by
  obtain ⟨cs, rfl, hl, hf⟩ := open_flat (ts := msTypes) Tryz.underlying50 (by kernel_rfl) (by kernel_rfl) (by kernel_rfl) hv h
  obtain ⟨m, h1, h2⟩ := open_ms hpos cs hl hf
  exact ⟨m, h1, fun E k hk => .agg _ _ (h2 E k hk)⟩
end
end Go.Proofs.YtjbcamcegnjnaaaGreat
/- DERIVED. A call of a core as an argument of a law. -/
namespace Go.Proofs.YtjbcamcegnjnaaaGreat
open Go Go.Joins Go.ChangeShapes Go.WideShapes Go.RowKit Go.Deep
section
variable {H : Type} {enc : TypeId × Value → H} {w : World} {base : Nat} {spare : Nat → Bool} {held : Bool}
theorem trod_o1 {n : Nat} {c : Value} {y : DataW H × List MemPlace} (h : DataW.trod enc Tryz.prog w base spare held n 4 [c] = some y) : ∃ x : Bool, c = .bool x := by
  obtain ⟨a, e, _⟩ := DataW.trod_bool Tryz.underlying4 h
  simp only [List.cons.injEq, and_true] at e
  exact ⟨a, e⟩
theorem trod_b1 (t : TypeId) {n : Nat} {cs : List Value} {y : DataW H × List MemPlace} (h : DataW.trod enc Tryz.prog w base spare held n 5 cs = some y) : ∃ x : UInt8, cs = (layB t).g x := by
  obtain ⟨x, rfl, _, hw⟩ := DataW.trod_int Tryz.underlying5 h
  obtain ⟨b, rfl⟩ := byte_of hw
  exact ⟨b, rfl⟩
def actTypes : List TypeId := [3, 3, 3, 3, 3, 4, 9, 3, 3, 47, 48, 48, 48, 45]
set_option maxRecDepth 100000 in
theorem open_act {r : Reach} {b0 : Nat} {v : Value} {d : DataW H} {p : List MemPlace} (hpos : 0 < w.heap.size) (hv : Value.okWide Tryz.prog w r b0 75 v) (h : DataW.Trod enc Tryz.prog w base spare held 75 v d p) :
    ∃ (k0 t0 i0 p0 y0 : Int) (raw : Bool) (nm : ByteArray) (m : WinM) (b : WinL UInt8), m.good w ∧ b.good (layB 5) w ∧ ∀ (E : Env), m.seen E 0 → (E.dom 4 ∧ E.ρ 4 = b.b ∧ E.sh 4 = b.off) →
      VR E (.agg #[.int .i64 k0, .int .i64 t0, .int .i64 i0, .int .i64 p0, .int .i64 y0, .bool raw, .string nm, .int .i64 m.id, .int .i64 m.fl, m.q.sl 0, m.an.sl 1, m.ns.sl 2, m.ar.sl 3, b.sl 4]) v := by
  obtain ⟨cs, rfl, hl, hf⟩ := open_flat (ts := actTypes) Tryz.underlying75 (by kernel_rfl) (by kernel_rfl) (by kernel_rfl) hv h
  match cs, hl with
  | [c0, c1, c2, c3, c4, c5, c6, c7, c8, c9, c10, c11, c12, c13], _ =>
    obtain ⟨_, _, _, h0⟩ := hf 0 _ _ rfl rfl
    obtain ⟨_, _, _, h1⟩ := hf 1 _ _ rfl rfl
    obtain ⟨_, _, _, h2⟩ := hf 2 _ _ rfl rfl
    obtain ⟨_, _, _, h3⟩ := hf 3 _ _ rfl rfl
    obtain ⟨_, _, _, h4⟩ := hf 4 _ _ rfl rfl
    obtain ⟨_, _, _, h5⟩ := hf 5 _ _ rfl rfl
    obtain ⟨_, _, _, h6⟩ := hf 6 _ _ rfl rfl
    obtain ⟨ob, _, _, h13⟩ := hf 13 _ _ rfl rfl
    obtain ⟨m, hm, em⟩ := open_ms (enc := enc) (w := w) (base := base) (spare := spare) (held := held) (r := r) (b0 := b0) hpos [c7, c8, c9, c10, c11, c12] rfl (fun i u c hu hc => by
      have hi : i < 6 := (List.getElem?_eq_some_iff.1 hu).1
      refine hf (i + 7) u c ?_ ?_
      · have : actTypes = actTypes.take 7 ++ (msTypes ++ [45]) := rfl
        rw [this, List.getElem?_append_right (by show 7 ≤ i + 7; omega), show i + 7 - (actTypes.take 7).length = i from Nat.add_sub_cancel i 7, List.getElem?_append_left hi]; exact hu
      · show ([c0, c1, c2, c3, c4, c5, c6] ++ ([c7, c8, c9, c10, c11, c12] ++ [c13]))[i + 7]? = some c
        rw [List.getElem?_append_right (by show 7 ≤ i + 7; omega), show i + 7 - [c0, c1, c2, c3, c4, c5, c6].length = i from Nat.add_sub_cancel i 7, List.getElem?_append_left hi]; exact hc)
    obtain ⟨x0, rfl⟩ := trod_i1 h0
    obtain ⟨x1, rfl⟩ := trod_i1 h1
    obtain ⟨x2, rfl⟩ := trod_i1 h2
    obtain ⟨x3, rfl⟩ := trod_i1 h3
    obtain ⟨x4, rfl⟩ := trod_i1 h4
    obtain ⟨x5, rfl⟩ := trod_o1 h5
    obtain ⟨x6, rfl⟩ := trod_s1 h6
    obtain ⟨b, gb, eb⟩ := open_winl (layB 5) Tryz.underlying45 (by kernel_rfl) (fun _ _ _ hy => trod_b1 _ hy) ob h13 hpos
    refine ⟨x0, x1, x2, x3, x4, x5, x6, m, b, hm, gb, fun E hE ⟨q1, q2, q3⟩ => ?_⟩
    have := em E 0 hE
    refine .agg _ _ (.cons _ _ _ _ (.int _ _) (.cons _ _ _ _ (.int _ _) (.cons _ _ _ _ (.int _ _) (.cons _ _ _ _ (.int _ _) (.cons _ _ _ _ (.int _ _) (.cons _ _ _ _ (.bool _) (.cons _ _ _ _ (.string _) ?_)))))))
    cases this with
    | cons _ _ _ _ a1 t1 => cases t1 with
      | cons _ _ _ _ a2 t2 => cases t2 with
        | cons _ _ _ _ a3 t3 => cases t3 with
          | cons _ _ _ _ a4 t4 => cases t4 with
            | cons _ _ _ _ a5 t5 => cases t5 with
              | cons _ _ _ _ a6 t6 => exact .cons _ _ _ _ a1 (.cons _ _ _ _ a2 (.cons _ _ _ _ a3 (.cons _ _ _ _ a4 (.cons _ _ _ _ a5 (.cons _ _ _ _ a6 (.cons _ _ _ _ (eb E 4 q1 q2 q3) .nil))))))
end
end Go.Proofs.YtjbcamcegnjnaaaGreat
/- DERIVED. A message at a law's entry meets what its walks ask. -/
namespace Go.Proofs.YtjbcamcegnjnaaaGreat
open Go Go.RowKit
theorem WinM.at0 (m : WinM) : (m.ms 0).at (m.ms 0).heap := ⟨⟨seesB_of (by kernel_rfl), rfl, rfl⟩, ⟨seesB_of (by kernel_rfl), rfl, rfl⟩, ⟨seesB_of (by kernel_rfl), rfl, rfl⟩, ⟨seesB_of (by kernel_rfl), rfl, rfl⟩⟩
theorem WinM.good.fit {w : World} {m : WinM} (h : m.good w) (k : Nat) : (m.ms k).fit := by
  have hmx : maxLen = 9223372036854775807 := by decide
  obtain ⟨⟨_, _, a1, a2⟩, ⟨_, _, b1, b2⟩, ⟨_, _, c1, c2⟩, ⟨_, _, d1, d2⟩⟩ := h
  exact ⟨by show m.q.l.length ≤ _; omega, by show m.an.l.length ≤ _; omega, by show m.ns.l.length ≤ _; omega, by show m.ar.l.length ≤ _; omega⟩
end Go.Proofs.YtjbcamcegnjnaaaGreat
