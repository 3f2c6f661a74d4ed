/- DERIVED. Texts put together: A8, A10. -/
import Derived.Test.YtjdecbfjpkpepaaZ18
import Derived.Test.YtjdecbfjpkpepaaZ20
set_option maxRecDepth 1000000
set_option maxHeartbeats 32000000
namespace Go.Proofs.Ytjdecbfjpkpepaa
open Go Go.Joins Go.ChangeShapes Go.WideShapes Go.RowKit Go.Deep
section
variable {H : Type} {enc : TypeId × Value → H} {w : World} {base : Nat} {spare : Nat → Bool} {held : Bool}
theorem trod_a6 {n : Nat} {cs : List Value} {y : DataW H × List MemPlace} (h : DataW.trod enc Try.prog w base spare held n 46 cs = some y) : ∃ x : A6, cs = layA6.g x := by
 obtain ⟨_, _, _, _, hl, _⟩ := DataW.trod_struct Try.underlying46 h
 have hl : cs.length = 4 := hl.trans (by kernel_rfl)
 have hf := zNt 8 46 [3, 3, 4, 9] n cs y (by kernel_rfl) h hl
 match cs, hl with
 | [c0, c1, c2, c3], _ =>
  obtain ⟨_, _, h0⟩ := hf 0 _ _ rfl rfl
  obtain ⟨_, _, h1⟩ := hf 1 _ _ rfl rfl
  obtain ⟨_, _, h2⟩ := hf 2 _ _ rfl rfl
  obtain ⟨_, _, h3⟩ := hf 3 _ _ rfl rfl
  obtain ⟨x0, e0, _⟩ := DataW.trod_int Try.underlying3 h0
  obtain ⟨x1, e1, _⟩ := DataW.trod_int Try.underlying3 h1
  obtain ⟨x2, e2, _⟩ := DataW.trod_bool Try.underlying4 h2
  obtain ⟨x3, e3, _⟩ := DataW.trod_string Try.underlying9 h3
  simp only [List.cons.injEq, and_true] at e0 e1 e2 e3
  subst e0; subst e1; subst e2; subst e3
  exact ⟨⟨x0, x1, x2, x3⟩, rfl⟩
theorem open_acts6 {r : Reach} {b0 : Nat} {v : Value} {d : DataW H} {p : List MemPlace} (hv : Value.okWide Try.prog w r b0 40 v) (h : DataW.Trod enc Try.prog w base spare held 40 v d p) (hpos : 0 < w.heap.size) :
  ∃ y : WinL A6, y.good layA6 w ∧ ∀ (E : Env) (k : Nat), E.dom k → E.ρ k = y.b → E.sh k = y.off → VR E (y.sl k) v := by
 obtain ⟨n, h⟩ := zFe Try.underlying40 hv h
 exact open_winl layA6 Try.underlying40 (by kernel_rfl) (fun _ _ _ hy => trod_a6 hy) (zJc Try.underlying40 hv) h hpos
end
end Go.Proofs.Ytjdecbfjpkpepaa
namespace Go.Proofs.Ytjdecbfjpkpepaa
open Go Go.Joins Go.ChangeShapes Go.WideShapes Go.RowKit Go.Deep
theorem back_fnW (y : WinL A6) (bw : Bl) (cb : Nat) (hcb : bw.length ≤ cb ∧ cb ≤ 9223372036854775807) : ∃ r, FnS Try.prog 0 7 [y.sl 0, .slice (some ⟨1, 0, none⟩) bw.length cb] (heap 2 [(0, .win ((y.rd 0).cells layA6) layA6.k), (1, .win (bw.map byV) 1)]) 2 r ∧ ∃ H m wr, r = .ret (.bool true) H m wr ∧ ∀ k ∈ wr, 2 ≤ k := by
 rw [WinL.cells]; exact back_fn y.l y.c bw cb hcb
end Go.Proofs.Ytjdecbfjpkpepaa
