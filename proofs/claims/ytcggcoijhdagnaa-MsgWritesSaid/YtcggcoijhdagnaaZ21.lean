/- DERIVED. Parts. -/
import Derived.Deep.Slices
import Derived.HandedShaped
import Derived.Test.YtcggcoijhdagnaaZ12
import Derived.Test.YtcggcoijhdagnaaZ20
set_option maxRecDepth 1000000
set_option maxHeartbeats 32000000
namespace Go.Proofs.Ytcggcoijhdagnaa
section
open Go Go.Joins Go.ChangeShapes Go.WideShapes Go.RowKit Go.Deep
def WinAt (w : World) (b off : Nat) (c : List Value) : Prop := ∀ j v, c[j]? = some v -> w.cell? ⟨b, off + j, none⟩ = some v
structure Win where
 b : Nat
 off : Nat
 c : List Value
 z : Nat
instance : Inhabited Win := ⟨⟨0, 0, [], 0⟩⟩
section
variable {H : Type} {enc : TypeId × Value -> H} {P : Program} {w : World} {base : Nat} {spare : Nat -> Bool} {held : Bool}
theorem zWj {r : Reach} {b0 : Nat} {t e : TypeId} {a : Addr} {len cap : Nat} (ht : P.underlying t = some (.slice e)) (h : Cell.okWide P w r b0 t (.slice (some a) len cap)) : a.spot = none /\ a.block < w.heap.size := by
 simp only [Cell.okWide, ht, Cell.ok] at h
 obtain ⟨_, h1, row, cells, h2, _⟩ := h.2.2
 refine ⟨h1, ?_⟩
 unfold World.shape? at h2
 rcases Nat.lt_or_ge a.block w.heap.size with hl | hl
 ·exact hl
 rw [Array.getElem?_eq_none hl] at h2; cases h2
theorem open_lay {α : Type} (L : Lay α) {r : Reach} {b0 : Nat} {t e : TypeId} {v : Value} {fuel : Nat} {x : DataW H × List MemPlace} (ht : P.underlying t = some (.slice e)) (hC : P.cellsOf e = L.k)
  (hopen : ∀ n cs y, DataW.trod enc P w base spare held n e cs = some y -> ∃ x, cs = L.g x) (hv : Cell.okWide P w r b0 t v) (h : DataW.trod enc P w base spare held fuel t [v] = some x) (hpos : 0 < w.heap.size) :
  ∃ (l : List α) (c b off : Nat), b < w.heap.size /\ WinAt w b off (l.flatMap L.g) /\ l.length <= c /\ c <= maxLen /\ ∀ (E : Env) (k : Nat), E.dom k -> E.ρ k = b -> E.sh k = off -> VR E (.slice (some ⟨k, 0, none⟩) l.length c) v := by
 rcases open_slice ht h with ⟨h0, _⟩ | ⟨a, len, cap, m, n, D, Pl, hcs, hb, hl, hm, hmm, hx, hi⟩
 ·simp only [aQ, and_true] at h0
  subst h0
  exact ⟨[], 0, 0, 0, hpos, fun j v hj => by simp at hj, aJ _, aH _, fun E k hd _ _ => .se k 0 0 none hd (fun _ => rfl) (.inr rfl)⟩
 simp only [aQ, and_true] at hcs
 subst hcs
 obtain ⟨hs, hbl⟩ := zWj ht hv
 obtain ⟨ab, ao, asp⟩ := a
 simp only at hs hbl hb
 subst hs
 have hlm : len <= m := by rw [hmm]; split <;> omega
 have hel : ∀ i, i < len -> ∃ y : α, ∀ j v, (L.g y)[j]? = some v -> w.cell? ⟨ab, ao + i * L.k + j, none⟩ = some v := fun i hi' => by
  obtain ⟨cs', h1, h2⟩ := hi i (by omega)
  obtain ⟨y, rfl⟩ := hopen _ _ _ h2
  obtain ⟨_, hcl, hat⟩ := World.cells?_some h1
  refine ⟨y, fun j v hj => ?_⟩
  have hjl : j < L.k := by have := (gS.1 hj).1; rw [L.len] at this; exact this
  have := hat j (by rw [hC]; exact hjl)
  rw [hj] at this
  rw [<- this, hC]
  congr 1
  rw [zBo, zBo]
 have build : ∀ n, n <= len -> ∃ l : List α, l.length = n /\ ∀ i (hi : i < l.length) j v, (L.g l[i])[j]? = some v -> w.cell? ⟨ab, ao + i * L.k + j, none⟩ = some v := by
  intro n
  induction n with
  | zero => intro _; exact ⟨[], rfl, fun i hi => by simp at hi⟩
  | succ n ih =>
   intro hn
   obtain ⟨l, hll, h1⟩ := ih (by omega)
   obtain ⟨y, hy⟩ := hel n (by omega)
   refine ⟨l ++ [y], by simp [hll], fun i hi' j v hj => ?_⟩
   by_cases hin : i < l.length
   ·rw [List.getElem_append_left hin] at hj; exact h1 i hin j v hj
   have hin : i = n := by simp at hi'; omega
   subst hin
   rw [List.getElem_append_right (by omega)] at hj
   simp at hj
   exact hy j v hj
 obtain ⟨l, hll, h1⟩ := build len (aJ _)
 have hcap : cap ≠ U := by
  have : maxLen = 9223372036854775807 := by decide
  have : U = 1180591620717411303424 := rfl
  omega
 refine ⟨l, cap, ab, ao, hbl, fun j v hj => ?_, by omega, hm, fun E k hd h2 h3 => ?_⟩
 ·have hpos' := L.pos
  have hjl : j < l.length * L.k := by have := (gS.1 hj).1; rw [zAe L.g L.k L.len] at this; exact this
  have hi' : j / L.k < l.length := Nat.div_lt_of_lt_mul (by rw [Nat.mul_comm]; exact hjl)
  have hr : j % L.k < L.k := Nat.mod_lt _ hpos'
  have hj2 : j = j / L.k * L.k + j % L.k := by have := Nat.div_add_mod j L.k; rw [Nat.mul_comm] at this; exact this.symm
  obtain ⟨q1, q2⟩ := zHf L.g L.k L.len l (j / L.k) hi'
  have : (L.g l[j / L.k])[j % L.k]? = some v := by
   rw [<- q2, List.getElem?_take_of_lt hr, List.getElem?_drop, <- hj2]; exact hj
  have := h1 _ hi' _ v this
  rw [Nat.add_assoc, <- hj2] at this
  exact this
 rw [hll]
 have := VR.sl (E := E) k 0 len cap hd hcap
 rw [h2, h3] at this
 exact this
end
section
variable {H : Type} {enc : TypeId × Value -> H} {P : Program} {w : World} {base : Nat} {spare : Nat -> Bool} {held : Bool}
end
theorem pos_of_shaped {P : Program} {W : World} (h : W.ShapedOpen P) (hk : Nat.blt P.globals.size (begin P (fun _ _ => 0) default).world.heap.size = true) : 0 < W.heap.size := by
 obtain ⟨o, _, h1, _⟩ := h.2 P.globals.size (aJ _) (aE hk)
 have := (gA.1 h1).1
 omega
end
section
open Go Go.Joins Go.ChangeShapes Go.WideShapes Go.RowKit Go.Deep
def flatOK (P : Program) : Nat -> TypeId -> List TypeId -> Bool
 | 0, _, _ => false
 | n + 1, t, ts => match P.underlying t with
  | some (.struct fs) => Nat.beq ts.length (P.cellsOf t) && (fs.toList.all fun f => flatOK P n f.type ((ts.drop f.offset).take (P.cellsOf f.type))) && ((List.range ts.length).all fun i => fs.toList.any fun f => Nat.ble f.offset i && Nat.blt i (f.offset + P.cellsOf f.type))
  | _ => match ts with
   | [u] => Nat.beq u t
   | _ => false
section
variable {H : Type} {enc : TypeId × Value -> H} {P : Program} {w : World} {base : Nat} {spare : Nat -> Bool} {held : Bool}
theorem zLc : ∀ (n : Nat) (t : TypeId) (ts : List TypeId) (m : Nat) (cs : List Value) (x : DataW H × List MemPlace), flatOK P n t ts = true -> DataW.trod enc P w base spare held m t cs = some x -> cs.length = ts.length -> ∀ (i : Nat) (u : TypeId) (v : Value), ts[i]? = some u -> cs[i]? = some v -> ∃ k y, DataW.trod enc P w base spare held k u [v] = some y
 | 0, _, _, _, _, _, h, _, _, _, _, _, _, _ => by cases h
 | n + 1, t, ts, m, cs, x, h, hx, hlen, i, u, v, hu, hv => by
  unfold flatOK at h
  split at h
  ·rename_i fs hs
   simp only [bA] at h
   obtain ⟨⟨h1, h2⟩, h3⟩ := h
   obtain ⟨xs, n', _, _, hl, hxl, hf⟩ := DataW.trod_struct hs hx
   have hi : i < ts.length := (gS.1 hu).1
   have h3 := aG.1 h3 i (List.mem_range.2 hi)
   obtain ⟨f, hfm, h4⟩ := List.any_eq_true.1 h3
   simp only [bA] at h4
   have ha := aE h4.1
   have hb : i < f.offset + P.cellsOf f.type := aE h4.2
   obtain ⟨j, hj⟩ := List.getElem?_of_mem hfm
   have hj' : fs[j]? = some f := by rw [<- Array.getElem?_toList]; exact hj
   have hjl : j < xs.length := by rw [hxl]; exact (gA.1 hj').1
   have hg := hf j f hj'
   rw [gG hjl] at hg
   have hk := aG.1 h2 f hfm
   refine zLc n f.type _ n' _ _ hk hg ?_ (i - f.offset) u v ?_ ?_
   ·simp only [aU, aM, hlen]
   ·rw [List.getElem?_take_of_lt (by omega), List.getElem?_drop, show f.offset + (i - f.offset) = i by omega]; exact hu
   rw [List.getElem?_take_of_lt (by omega), List.getElem?_drop, show f.offset + (i - f.offset) = i by omega]; exact hv
  split at h
  ·rename_i u'
   have := aA h
   subst this
   have hc : cs.length = 1 := hlen
   match cs, hc with
   | [c], _ =>
    cases i with
    | zero =>
     simp only [List.getElem?_cons_zero, aP] at hu hv
     subst hu; subst hv
     exact ⟨m, x, hx⟩
    | succ i => simp at hu
  cases h
structure WinL (α : Type) where
 l : List α
 c : Nat
 b : Nat
 off : Nat
def WinL.good {α : Type} (L : Lay α) (w : World) (x : WinL α) : Prop := x.b < w.heap.size /\ WinAt w x.b x.off (x.l.flatMap L.g) /\ x.l.length <= x.c /\ x.c <= maxLen
def WinL.rd {α : Type} (x : WinL α) (k : Nat) : RdL α := ⟨k, x.c, [], x.l, []⟩
def WinL.sl {α : Type} (x : WinL α) (k : Nat) : Value := (x.rd k).sl
theorem open_winl {α : Type} (L : Lay α) {r : Reach} {b0 : Nat} {t e : TypeId} {v : Value} {fuel : Nat} {x : DataW H × List MemPlace} (ht : P.underlying t = some (.slice e)) (hC : P.cellsOf e = L.k)
  (hopen : ∀ n cs y, DataW.trod enc P w base spare held n e cs = some y -> ∃ x, cs = L.g x) (hv : Cell.okWide P w r b0 t v) (h : DataW.trod enc P w base spare held fuel t [v] = some x) (hpos : 0 < w.heap.size) :
  ∃ y : WinL α, y.good L w /\ ∀ (E : Env) (k : Nat), E.dom k -> E.ρ k = y.b -> E.sh k = y.off -> VR E (y.sl k) v := by
 obtain ⟨l, c, b, off, h1, h2, h3, h4, h5⟩ := open_lay L ht hC hopen hv h hpos
 exact ⟨⟨l, c, b, off⟩, ⟨h1, h2, h3, h4⟩, h5⟩
end
end
end Go.Proofs.Ytcggcoijhdagnaa
