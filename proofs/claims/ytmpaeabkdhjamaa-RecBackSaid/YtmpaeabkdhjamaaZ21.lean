/- DERIVED. Texts put together: A9, A11. -/
import Derived.Test.YtmpaeabkdhjamaaZ18
import Derived.Test.YtmpaeabkdhjamaaZ20
set_option maxRecDepth 1000000
set_option maxHeartbeats 32000000
namespace Go.Proofs.Ytmpaeabkdhjamaa
open Go Go.Joins Go.ChangeShapes Go.WideShapes Go.RowKit Go.Deep
section
variable {H : Type} {enc : TypeId × Value → H} {w : World} {base : Nat} {spare : Nat → Bool} {held : Bool}
theorem trod_a7 {n : Nat} {cs : List Value} {y : DataW H × List MemPlace} (h : DataW.trod enc Try.prog w base spare held n 41 cs = some y) : ∃ x : A7, cs = layA7.g x := by
 obtain ⟨_, _, _, _, hl, _⟩ := DataW.trod_struct Try.underlying41 h
 have hl : cs.length = 8 := hl.trans (by kernel_rfl)
 have hf := zPh 8 41 [9, 3, 3, 3, 9, 4, 4, 3] n cs y (by kernel_rfl) h hl
 match cs, hl with
 | [c0, c1, c2, c3, c4, c5, c6, c7], _ =>
  obtain ⟨_, _, h0⟩ := hf 0 _ _ rfl rfl
  obtain ⟨_, _, h1⟩ := hf 1 _ _ rfl rfl
  obtain ⟨_, _, h2⟩ := hf 2 _ _ rfl rfl
  obtain ⟨_, _, h3⟩ := hf 3 _ _ rfl rfl
  obtain ⟨_, _, h4⟩ := hf 4 _ _ rfl rfl
  obtain ⟨_, _, h5⟩ := hf 5 _ _ rfl rfl
  obtain ⟨_, _, h6⟩ := hf 6 _ _ rfl rfl
  obtain ⟨_, _, h7⟩ := hf 7 _ _ rfl rfl
  obtain ⟨x0, e0, _⟩ := DataW.trod_string Try.underlying9 h0
  obtain ⟨x1, e1, _⟩ := DataW.trod_int Try.underlying3 h1
  obtain ⟨x2, e2, _⟩ := DataW.trod_int Try.underlying3 h2
  obtain ⟨x3, e3, _⟩ := DataW.trod_int Try.underlying3 h3
  obtain ⟨x4, e4, _⟩ := DataW.trod_string Try.underlying9 h4
  obtain ⟨x5, e5, _⟩ := DataW.trod_bool Try.underlying4 h5
  obtain ⟨x6, e6, _⟩ := DataW.trod_bool Try.underlying4 h6
  obtain ⟨x7, e7, _⟩ := DataW.trod_int Try.underlying3 h7
  simp only [List.cons.injEq, and_true] at e0 e1 e2 e3 e4 e5 e6 e7
  subst e0; subst e1; subst e2; subst e3; subst e4; subst e5; subst e6; subst e7
  exact ⟨⟨⟨x0, x1, x2, x3, x4⟩, x5, x6, x7⟩, rfl⟩
theorem open_acts7 {r : Reach} {b0 : Nat} {v : Value} {d : DataW H} {p : List MemPlace} (hv : Value.okWide Try.prog w r b0 32 v) (h : DataW.Trod enc Try.prog w base spare held 32 v d p) (hpos : 0 < w.heap.size) :
  ∃ y : WinL A7, y.good layA7 w ∧ ∀ (E : Env) (k : Nat), E.dom k → E.ρ k = y.b → E.sh k = y.off → VR E (y.sl k) v := by
 obtain ⟨n, h⟩ := zFu Try.underlying32 hv h
 exact open_winl layA7 Try.underlying32 (by kernel_rfl) (fun _ _ _ hy => trod_a7 hy) (zJx Try.underlying32 hv) h hpos
end
end Go.Proofs.Ytmpaeabkdhjamaa
namespace Go.Proofs.Ytmpaeabkdhjamaa
open Go Go.Joins Go.ChangeShapes Go.WideShapes Go.RowKit Go.Deep
theorem back7_fnW (y : WinL A7) (bw : Bl) (cb : Nat) (hcb : bw.length ≤ cb ∧ cb ≤ 9223372036854775807) : ∃ r, FnS Try.prog 0 9 [y.sl 0, .slice (some ⟨1, 0, none⟩) bw.length cb] (heap 2 [(0, .win ((y.rd 0).cells layA7) layA7.k), (1, .win (bw.map byV) 1)]) 2 r ∧ ∃ H m wr, r = .ret (.bool true) H m wr ∧ ∀ k ∈ wr, 2 ≤ k := by
 rw [WinL.cells]; exact back7_fn y.l y.c bw cb hcb
end Go.Proofs.Ytmpaeabkdhjamaa
