/- DERIVED. Texts put together: A1, A2. -/
import Derived.Deep.Slices
import Derived.HandedShaped
import Derived.Test.YtpdeidlkeplegaaZ12
import Derived.Test.YtpdeidlkeplegaaZ16
set_option maxRecDepth 1000000
set_option maxHeartbeats 32000000
namespace Go.Proofs.Ytpdeidlkeplegaa
open Go Go.Joins Go.ChangeShapes Go.WideShapes Go.RowKit Go.Deep
def WinAt (w : World) (b off : Nat) (c : List Value) : Prop := ∀ j v, c[j]? = some v → w.cell? ⟨b, off + j, none⟩ = some v
structure Win where
 b : Nat
 off : Nat
 c : List Value
 z : Nat
instance : Inhabited Win := ⟨⟨0, 0, [], 0⟩⟩
def Win.ok (w : World) (x : Win) : Prop := x.b < w.heap.size ∧ WinAt w x.b x.off x.c ∧ plainL x.c = true
section
variable {H : Type} {enc : TypeId × Value → H} {P : Program} {w : World} {base : Nat} {spare : Nat → Bool} {held : Bool}
theorem zRu {r : Reach} {b0 : Nat} {t e : TypeId} {a : Addr} {len cap : Nat} (ht : P.underlying t = some (.slice e)) (h : Cell.okWide P w r b0 t (.slice (some a) len cap)) : a.spot = none ∧ a.block < w.heap.size := by
 simp only [Cell.okWide, ht, Cell.ok] at h
 obtain ⟨_, h1, row, cells, h2, _⟩ := h.2.2
 refine ⟨h1, ?_⟩
 unfold World.shape? at h2
 rcases Nat.lt_or_ge a.block w.heap.size with hl | hl
 ·exact hl
 ·rw [Array.getElem?_eq_none hl] at h2; cases h2
theorem zPd {r : Reach} {b0 : Nat} {t e : TypeId} {v : Value} (ht : P.underlying t = some (.slice e)) (h : Value.okWide P w r b0 t v) : Cell.okWide P w r b0 t v := by
 simp only [Value.okWide, ht] at h; exact h
theorem open_lay {α : Type} (L : Lay α) {r : Reach} {b0 : Nat} {t e : TypeId} {v : Value} {fuel : Nat} {x : DataW H × List MemPlace} (ht : P.underlying t = some (.slice e)) (hC : P.cellsOf e = L.k)
  (hopen : ∀ n cs y, DataW.trod enc P w base spare held n e cs = some y → ∃ x, cs = L.g x) (hv : Cell.okWide P w r b0 t v) (h : DataW.trod enc P w base spare held fuel t [v] = some x) (hpos : 0 < w.heap.size) :
  ∃ (l : List α) (c b off : Nat), b < w.heap.size ∧ WinAt w b off (l.flatMap L.g) ∧ l.length ≤ c ∧ c ≤ maxLen ∧ ∀ (E : Env) (k : Nat), E.dom k → E.ρ k = b → E.sh k = off → VR E (.slice (some ⟨k, 0, none⟩) l.length c) v := by
 rcases open_slice ht h with ⟨h0, _⟩ | ⟨a, len, cap, m, n, D, Pl, hcs, hb, hl, hm, hmm, hx, hi⟩
 ·simp only [List.cons.injEq, and_true] at h0
  subst h0
  exact ⟨[], 0, 0, 0, hpos, fun j v hj => by simp at hj, Nat.le_refl _, Nat.zero_le _, fun E k hd _ _ => .se k 0 0 none hd (fun _ => rfl) (.inr rfl)⟩
 ·simp only [List.cons.injEq, and_true] at hcs
  subst hcs
  obtain ⟨hs, hbl⟩ := zRu ht hv
  obtain ⟨ab, ao, asp⟩ := a
  simp only at hs hbl hb
  subst hs
  have hlm : len ≤ m := by rw [hmm]; split <;> omega
  have hel : ∀ i, i < len → ∃ y : α, ∀ j v, (L.g y)[j]? = some v → w.cell? ⟨ab, ao + i * L.k + j, none⟩ = some v := fun i hi' => by
   obtain ⟨cs', h1, h2⟩ := hi i (by omega)
   obtain ⟨y, rfl⟩ := hopen _ _ _ h2
   obtain ⟨_, hcl, hat⟩ := World.cells?_some h1
   refine ⟨y, fun j v hj => ?_⟩
   have hjl : j < L.k := by have := (List.getElem?_eq_some_iff.1 hj).1; rw [L.len] at this; exact this
   have := hat j (by rw [hC]; exact hjl)
   rw [hj] at this
   rw [← this, hC]
   congr 1
   rw [zAi, zAi]
  have build : ∀ n, n ≤ len → ∃ l : List α, l.length = n ∧ ∀ i (hi : i < l.length) j v, (L.g l[i])[j]? = some v → w.cell? ⟨ab, ao + i * L.k + j, none⟩ = some v := by
   intro n
   induction n with
   | zero => intro _; exact ⟨[], rfl, fun i hi => by simp at hi⟩
   | succ n ih =>
    intro hn
    obtain ⟨l, hll, h1⟩ := ih (by omega)
    obtain ⟨y, hy⟩ := hel n (by omega)
    refine ⟨l ++ [y], by simp [hll], fun i hi' j v hj => ?_⟩
    by_cases hin : i < l.length
    ·rw [List.getElem_append_left hin] at hj; exact h1 i hin j v hj
    ·have hin : i = n := by simp at hi'; omega
     subst hin
     rw [List.getElem_append_right (by omega)] at hj
     simp at hj
     exact hy j v hj
  obtain ⟨l, hll, h1⟩ := build len (Nat.le_refl _)
  have hcap : cap ≠ U := by
   have : maxLen = 9223372036854775807 := by decide
   have : U = 1180591620717411303424 := rfl
   omega
  refine ⟨l, cap, ab, ao, hbl, fun j v hj => ?_, by omega, hm, fun E k hd h2 h3 => ?_⟩
  ·have hpos' := L.pos
   have hjl : j < l.length * L.k := by have := (List.getElem?_eq_some_iff.1 hj).1; rw [zAa L.g L.k L.len] at this; exact this
   have hi' : j / L.k < l.length := Nat.div_lt_of_lt_mul (by rw [Nat.mul_comm]; exact hjl)
   have hr : j % L.k < L.k := Nat.mod_lt _ hpos'
   have hj2 : j = j / L.k * L.k + j % L.k := by have := Nat.div_add_mod j L.k; rw [Nat.mul_comm] at this; exact this.symm
   obtain ⟨q1, q2⟩ := zMb L.g L.k L.len l (j / L.k) hi'
   have : (L.g l[j / L.k])[j % L.k]? = some v := by
    rw [← q2, List.getElem?_take_of_lt hr, List.getElem?_drop, ← hj2]; exact hj
   have := h1 _ hi' _ v this
   rw [Nat.add_assoc, ← hj2] at this
   exact this
  ·rw [hll]
   have := VR.sl (E := E) k 0 len cap hd hcap
   rw [h2, h3] at this
   exact this
end
section
variable {H : Type} {enc : TypeId × Value → H} {P : Program} {w : World} {base : Nat} {spare : Nat → Bool} {held : Bool}
theorem zKd {r : Reach} {b0 : Nat} {t e : TypeId} {v : Value} {d : DataW H} {p : List MemPlace} (ht : P.underlying t = some (.slice e)) (hv : Value.okWide P w r b0 t v) (h : DataW.Trod enc P w base spare held t v d p) : ∃ n, DataW.trod enc P w base spare held n t [v] = some (d, p) := by
 obtain ⟨a, l, c, rfl⟩ := okWide_slice ht hv
 obtain ⟨n, h⟩ := h
 exact ⟨n, h⟩
end
theorem pos_of_shaped {P : Program} {W : World} (h : W.ShapedOpen P) (hk : Nat.blt P.globals.size (begin P (fun _ _ => 0) default).world.heap.size = true) : 0 < W.heap.size := by
 obtain ⟨o, _, h1, _⟩ := h.2 P.globals.size (Nat.le_refl _) (Nat.le_of_ble_eq_true hk)
 have := (Array.getElem?_eq_some_iff.1 h1).1
 omega
end Go.Proofs.Ytpdeidlkeplegaa
namespace Go.Proofs.Ytpdeidlkeplegaa
open Go Go.Joins Go.ChangeShapes Go.WideShapes Go.RowKit Go.Deep
def flatOK (P : Program) : Nat → TypeId → List TypeId → Bool
 | 0, _, _ => false
 | n + 1, t, ts => match P.underlying t with
  | some (.struct fs) => Nat.beq ts.length (P.cellsOf t) && (fs.toList.all fun f => flatOK P n f.type ((ts.drop f.offset).take (P.cellsOf f.type))) && ((List.range ts.length).all fun i => fs.toList.any fun f => Nat.ble f.offset i && Nat.blt i (f.offset + P.cellsOf f.type))
  | _ => match ts with
   | [u] => Nat.beq u t
   | _ => false
section
variable {H : Type} {enc : TypeId × Value → H} {P : Program} {w : World} {base : Nat} {spare : Nat → Bool} {held : Bool}
structure WinL (α : Type) where
 l : List α
 c : Nat
 b : Nat
 off : Nat
def WinL.good {α : Type} (L : Lay α) (w : World) (x : WinL α) : Prop := x.b < w.heap.size ∧ WinAt w x.b x.off (x.l.flatMap L.g) ∧ x.l.length ≤ x.c ∧ x.c ≤ maxLen
def WinL.rd {α : Type} (x : WinL α) (k : Nat) : RdL α := ⟨k, x.c, [], x.l, []⟩
def WinL.sl {α : Type} (x : WinL α) (k : Nat) : Value := (x.rd k).sl
def WinL.win {α : Type} (L : Lay α) (x : WinL α) : Win := ⟨x.b, x.off, (x.rd 0).cells L, L.k⟩
theorem WinL.cells {α : Type} (L : Lay α) (x : WinL α) (k : Nat) : (x.rd k).cells L = x.l.flatMap L.g := by show [] ++ x.l.flatMap L.g ++ [] = _; rw [List.append_nil, List.nil_append]
theorem WinL.good.ok {α : Type} {L : Lay α} {w : World} {x : WinL α} (h : x.good L w) : (x.win L).ok w := ⟨h.1, by show WinAt w x.b x.off ((x.rd 0).cells L); rw [WinL.cells]; exact h.2.1, by show plainL ((x.rd 0).cells L) = true; rw [WinL.cells]; exact zCy L.g L.plain _⟩
theorem open_winl {α : Type} (L : Lay α) {r : Reach} {b0 : Nat} {t e : TypeId} {v : Value} {fuel : Nat} {x : DataW H × List MemPlace} (ht : P.underlying t = some (.slice e)) (hC : P.cellsOf e = L.k)
  (hopen : ∀ n cs y, DataW.trod enc P w base spare held n e cs = some y → ∃ x, cs = L.g x) (hv : Cell.okWide P w r b0 t v) (h : DataW.trod enc P w base spare held fuel t [v] = some x) (hpos : 0 < w.heap.size) :
  ∃ y : WinL α, y.good L w ∧ ∀ (E : Env) (k : Nat), E.dom k → E.ρ k = y.b → E.sh k = y.off → VR E (y.sl k) v := by
 obtain ⟨l, c, b, off, h1, h2, h3, h4, h5⟩ := open_lay L ht hC hopen hv h hpos
 exact ⟨⟨l, c, b, off⟩, ⟨h1, h2, h3, h4⟩, h5⟩
end
end Go.Proofs.Ytpdeidlkeplegaa
