/- DERIVED. Texts put together: Sets1, Sets2, Own. -/
import Derived.StillTailTactics
import Derived.Test.YtblhnenhonfpnaaZ18
import Derived.Test.YtblhnenhonfpnaaZ22
set_option maxRecDepth 1000000
set_option maxHeartbeats 32000000
namespace Go.Proofs.Ytblhnenhonfpnaa
open Go.RowKit
structure St where
 name : Bs
 type : Int
 cls : Int
 ttl : Int
 data : List Bs
 deriving DecidableEq
theorem zIk {w w' : World} {v : Value} {l : List Rc} (h : ReadsRecs w v l) (hb : Below w.heap.size w w') : ReadsRecs w' v l := h.below (fun _ _ h => h) hb
end Go.Proofs.Ytblhnenhonfpnaa
namespace Go.Proofs.Ytblhnenhonfpnaa
open Go.RowKit
theorem min_if (a b : Int) : (if b < a then b else a) = min a b := by rw [Int.min_def]; split <;> split <;> omega
end Go.Proofs.Ytblhnenhonfpnaa
namespace Go.Proofs.Ytblhnenhonfpnaa
open Go.RowKit
theorem zEr {α : Type} (sz : Nat) : ∀ (css : List (List α)) (i j : Nat) (cs : List α) (u : α), (∀ cs ∈ css, cs.length = sz) → css[i]? = some cs → j < sz → css.flatten.set (i * sz + j) u = (css.set i (cs.set j u)).flatten
 | [], i, j, cs, u, _, h, _ => by simp at h
 | c :: css, 0, j, cs, u, hall, h, hj => by
  have hc : c.length = sz := hall c (by simp)
  simp only [List.getElem?_cons_zero, Option.some.injEq] at h
  subst h
  simp only [List.flatten_cons, Nat.zero_mul, Nat.zero_add, List.set_cons_zero]
  rw [List.set_append_left _ _ (by omega)]
 | c :: css, i + 1, j, cs, u, hall, h, hj => by
  have hc : c.length = sz := hall c (by simp)
  simp only [List.getElem?_cons_succ] at h
  have ih := zEr sz css i j cs u (fun x hx => hall x (by simp [hx])) h hj
  simp only [List.flatten_cons, List.set_cons_succ]
  rw [List.set_append_right _ _ (by rw [hc, Nat.succ_mul]; omega), ← ih]
  congr 2
  rw [hc, Nat.succ_mul]; omega
theorem zIg {w : World} {B : Nat} {e : TypeId} {sz g n cap : Nat} {xs : List Value} (h : w.ownsRow B e sz (.slice (some ⟨g, 0, none⟩) n cap) n xs) (j : Nat) (_ : j < n * sz) (u : Value) :
  (w.setCell ⟨g, j, none⟩ u).ownsRow B e sz (.slice (some ⟨g, 0, none⟩) n cap) n (xs.set j u) := by
 obtain ⟨hl, h⟩ := h
 refine ⟨by simp [hl], ?_⟩
 rcases h with ⟨h, _⟩ | ⟨g', cap', cur, hv, hB, hg, hn, hc, hs, ht⟩
 ·cases h
 ·cases hv
  refine .inr ⟨g, cap, cur.setIfInBounds j u, rfl, hB, ?_, hn, hc, by simp [hs], ?_⟩
  ·simp only [World.setCell, Array.getElem?_modify, hg, Option.map_some]
   simp
  ·rw [← ht]
   simp only [Array.toList_setIfInBounds]
   rw [List.take_set]
theorem zBx {w : World} {B : Nat} {e : TypeId} {sz n g : Nat} {v : Value} {xs : List Value} (h : w.ownsRow B e sz v n xs) (hv : v.ownBlock = some g) : ∃ cur, w.heap[g]? = some (.cells cur e (0, 0)) := by
 rcases h.2 with ⟨rfl, _⟩ | ⟨g', cap', cur, rfl, _, hg, _⟩
 ·cases hv
 ·simp only [Value.ownBlock, Option.some.injEq] at hv; subst hv; exact ⟨cur, hg⟩
theorem zAq {w : World} {B B' : Nat} {e e' : TypeId} {sz sz' n n' : Nat} {v v' : Value} {xs xs' : List Value} (h : w.ownsRow B e sz v n xs) (h' : w.ownsRow B' e' sz' v' n' xs') (hne : e ≠ e') :
  v.ownBlock = none ∨ v.ownBlock ≠ v'.ownBlock := by
 cases hv : v.ownBlock with
 | none => exact .inl rfl
 | some g =>
  refine .inr (fun e1 => ?_)
  obtain ⟨c1, h1⟩ := zBx h hv
  obtain ⟨c2, h2⟩ := zBx h' e1.symm
  rw [h1] at h2; cases h2; exact hne rfl
def zAg (s : St) (vd : Value) : List Value := [str s.name, .int .i64 s.type, .int .i64 s.cls, .int .i64 s.ttl, vd]
structure OwnSets (B : Nat) (w : World) (v : Value) (L : List St) (vds : List Value) : Prop where
 len : vds.length = L.length
 row : w.ownsRow B 32 5 v L.length (List.zipWith zAg L vds).flatten
 data : ∀ (i : Nat) (s : St) (vd : Value), L[i]? = some s → vds[i]? = some vd → w.ownsRow B 9 1 vd s.data.length (s.data.map str)
 apart : ∀ (i j : Nat) (vi vj : Value) (g : Nat), vds[i]? = some vi → vds[j]? = some vj → vi.ownBlock = some g → vj.ownBlock = some g → i = j
theorem zOu (B : Nat) (w : World) : OwnSets B w (.slice none 0 0) [] [] :=
 ⟨rfl, World.ownsRow_nil _ _ _ _, fun _ _ _ h => by simp at h, fun _ _ _ _ _ h => by simp at h⟩
theorem zLo (L : List St) (vds : List Value) : ∀ cs ∈ List.zipWith zAg L vds, cs.length = 5 := by
 intro cs h
 obtain ⟨i, hi, rfl⟩ := List.getElem_of_mem h
 simp [zAg]
theorem zKi {L : List St} {vds : List Value} {i : Nat} {s : St} {vd : Value} (h1 : L[i]? = some s) (h2 : vds[i]? = some vd) : (List.zipWith zAg L vds)[i]? = some (zAg s vd) := by
 simp [List.getElem?_zipWith, h1, h2]
theorem OwnSets.count {B : Nat} {w : World} {a : Option Addr} {n cap : Nat} {L : List St} {vds : List Value} (h : OwnSets B w (.slice a n cap) L vds) : n = L.length := by
 rcases h.row.2 with ⟨h1, h2⟩ | ⟨g, c, cur, hv, _⟩
 ·cases h1; exact h2.symm
 ·cases hv; rfl
theorem OwnSets.cells {B : Nat} {w : World} {g n cap : Nat} {L : List St} {vds : List Value} (h : OwnSets B w (.slice (some ⟨g, 0, none⟩) n cap) L vds) {i : Nat} {s : St} {vd : Value} (h1 : L[i]? = some s) (h2 : vds[i]? = some vd) :
  ∀ j u, (zAg s vd)[j]? = some u → w.cell? ⟨g, i * 5 + j, none⟩ = some u := by
 intro j u hu
 have hj : j < 5 := by have := (List.getElem?_eq_some_iff.1 hu).1; simpa [zAg] using this
 have := zDy 5 _ (zLo L vds) i j _ (zKi h1 h2) hj
 have h3 := h.row.cells (g := g) rfl (i * 5 + j) u (by rw [this]; exact hu)
 rwa [zFc] at h3
theorem OwnSets.kept {B : Nat} {w w' : World} {v : Value} {L : List St} {vds : List Value} {row : Option Nat} (h : OwnSets B w v L vds) (hg : w.grownBy w' row) (h1 : v.ownBlock = none ∨ v.ownBlock ≠ row)
  (h2 : ∀ (i : Nat) vd, vds[i]? = some vd → vd.ownBlock = none ∨ vd.ownBlock ≠ row) : OwnSets B w' v L vds :=
 ⟨h.len, h.row.kept hg h1, fun i s vd hs hv => (h.data i s vd hs hv).kept hg (h2 i vd hv), h.apart⟩
theorem OwnSets.below {B : Nat} {w w' : World} {v : Value} {L : List St} {vds : List Value} (h : OwnSets B w v L vds) (hb : Below w.heap.size w w') : OwnSets B w' v L vds := by
 have hg : w.grownBy w' none := ⟨hb.os, hb.tape, hb.output, hb.size, fun k hk _ => hb.block k hk⟩
 refine h.kept hg ?_ ?_
 ·cases v.ownBlock <;> simp
 ·intro i vd _; cases vd.ownBlock <;> simp
theorem OwnSets.push {B : Nat} {w w1 w3 : World} {v : Value} {L : List St} {vds : List Value} {g cap : Nat} (h : OwnSets B w v L vds) (hw1 : w.grownBy w1 none) {s : St} {vd : Value} (hvd : w1.ownsRow B 9 1 vd s.data.length (s.data.map str))
  (hfresh : ∀ k, vd.ownBlock = some k → w.heap.size ≤ k)
  (ho : w3.ownsRow B 32 5 (.slice (some ⟨g, 0, none⟩) (L.length + 1) cap) (L.length + 1) ((List.zipWith zAg L vds).flatten ++ zAg s vd)) (hg : w1.grownBy w3 v.ownBlock) :
  OwnSets B w3 (.slice (some ⟨g, 0, none⟩) (L.length + 1) cap) (L ++ [s]) (vds ++ [vd]) := by
 have hdat : ∀ (i : Nat) (t : St) (ve : Value), L[i]? = some t → vds[i]? = some ve → w1.ownsRow B 9 1 ve t.data.length (t.data.map str) :=
  fun i t ve h1 h2 => (h.data i t ve h1 h2).kept hw1 (by cases ve.ownBlock <;> simp)
 have hrow1 : w1.ownsRow B 32 5 v L.length (List.zipWith zAg L vds).flatten := h.row.kept hw1 (by cases v.ownBlock <;> simp)
 have hlast : ∀ {α : Type} (l : List α) (x y : α) (i : Nat), (l ++ [x])[i]? = some y → (l[i]? = some y ∧ i < l.length) ∨ (i = l.length ∧ x = y) := by
  intro α l x y i hi
  by_cases hlt : i < l.length
  ·rw [List.getElem?_append_left hlt] at hi; exact .inl ⟨hi, hlt⟩
  ·rw [List.getElem?_append_right (by omega)] at hi
   have h0 : i - l.length = 0 := by
    rcases Nat.eq_zero_or_pos (i - l.length) with h | h
    ·exact h
    ·rw [List.getElem?_eq_none (by simp; omega)] at hi; cases hi
   rw [h0] at hi
   exact .inr ⟨by omega, by simpa using hi⟩
 have hold : ∀ (i : Nat) (ve : Value) (k : Nat), vds[i]? = some ve → ve.ownBlock = some k → k < w.heap.size := by
  intro i ve k h1 h2
  have hi : i < L.length := by rw [← h.len]; exact (List.getElem?_eq_some_iff.1 h1).1
  exact ((h.data i _ ve (List.getElem?_eq_getElem hi) h1).lt k h2).2
 refine ⟨by simp [h.len], ?_, ?_, ?_⟩
 ·have e : (List.zipWith zAg (L ++ [s]) (vds ++ [vd])).flatten = (List.zipWith zAg L vds).flatten ++ zAg s vd := by
   rw [List.zipWith_append (by rw [h.len])]; simp
  rw [e]; simpa using ho
 ·intro i t ve h1 h2
  rcases hlast L s t i h1 with ⟨h1, hi⟩ | ⟨hi, rfl⟩
  ·rcases hlast vds vd ve i h2 with ⟨h2, _⟩ | ⟨h3, _⟩
   ·exact (hdat i t ve h1 h2).kept hg (zAq (hdat i t ve h1 h2) hrow1 (by decide))
   ·rw [h.len] at h3; omega
  ·rcases hlast vds vd ve i h2 with ⟨_, h3⟩ | ⟨_, rfl⟩
   ·rw [h.len] at h3; omega
   ·exact hvd.kept hg (zAq hvd hrow1 (by decide))
 ·intro i j vi vj k h1 h2 h3 h4
  rcases hlast vds vd vi i h1 with ⟨h1, _⟩ | ⟨hi, rfl⟩
  ·rcases hlast vds vd vj j h2 with ⟨h2, _⟩ | ⟨hj, rfl⟩
   ·exact h.apart i j vi vj k h1 h2 h3 h4
   ·have := hold i vi k h1 h3; have := hfresh k h4; omega
  ·rcases hlast vds _ vj j h2 with ⟨h2, _⟩ | ⟨hj, rfl⟩
   ·have := hold j vj k h2 h4; have := hfresh k h3; omega
   ·omega
theorem OwnSets.setTtl {B : Nat} {w : World} {g n cap : Nat} {L : List St} {vds : List Value} (h : OwnSets B w (.slice (some ⟨g, 0, none⟩) n cap) L vds) {i : Nat} {s : St} (h1 : L[i]? = some s) (t : Int) :
  OwnSets B (w.setCell ⟨g, i * 5 + 3, none⟩ (.int .i64 t)) (.slice (some ⟨g, 0, none⟩) n cap) (L.set i { s with ttl := t }) vds := by
 obtain rfl := h.count
 have hi : i < L.length := (List.getElem?_eq_some_iff.1 h1).1
 have h2 : vds[i]? = some (vds[i]'(by rw [h.len]; exact hi)) := List.getElem?_eq_getElem _
 have hgr : w.grownBy (w.setCell ⟨g, i * 5 + 3, none⟩ (.int .i64 t)) (some g) := ⟨rfl, rfl, rfl, by simp [World.setCell], fun k _ hk => Below.heap_setCell _ _ _ _ (fun e => hk (by rw [e]))⟩
 refine ⟨by simp [h.len], ?_, ?_, h.apart⟩
 ·have := zIg h.row (i * 5 + 3) (by omega) (.int .i64 t)
  rw [zEr 5 _ i 3 _ _ (zLo L vds) (zKi h1 h2) (by omega)] at this
  have e : List.zipWith zAg (L.set i { s with ttl := t }) vds = (List.zipWith zAg L vds).set i ((zAg s (vds[i]'(by rw [h.len]; exact hi))).set 3 (.int .i64 t)) := by
   apply List.ext_getElem?
   intro j
   by_cases hij : i = j
   ·subst hij
    rw [zKi (List.getElem?_set_self hi) h2, List.getElem?_set_self (by simp [h.len, hi])]
    rfl
   ·rw [List.getElem?_set_ne hij]
    simp [List.getElem?_zipWith, List.getElem?_set_ne hij]
  rw [e]; simpa using this
 ·intro j x vd hx hv
  by_cases hij : i = j
  ·subst hij
   rw [List.getElem?_set_self hi] at hx
   cases hx
   have hd := h.data i s vd h1 hv
   exact hd.kept hgr (zAq hd h.row (by decide))
  ·rw [List.getElem?_set_ne hij] at hx
   have hd := h.data j x vd hx hv
   exact hd.kept hgr (zAq hd h.row (by decide))
theorem OwnSets.setData {B : Nat} {w w1 : World} {g n cap : Nat} {L : List St} {vds : List Value} (h : OwnSets B w (.slice (some ⟨g, 0, none⟩) n cap) L vds) {i : Nat} {s : St} {vd : Value} (h1 : L[i]? = some s) (h2 : vds[i]? = some vd)
  {row : Option Nat} (hg1 : w.grownBy w1 row) (hrow : row = none ∨ row = vd.ownBlock) {vd' : Value} {D : List Bs} (ho : w1.ownsRow B 9 1 vd' D.length (D.map str)) (hb : ∀ k, vd'.ownBlock = some k → vd.ownBlock = some k ∨ w.heap.size ≤ k) :
  OwnSets B (w1.setCell ⟨g, i * 5 + 4, none⟩ vd') (.slice (some ⟨g, 0, none⟩) n cap) (L.set i { s with data := D }) (vds.set i vd') := by
 obtain rfl := h.count
 have hi : i < L.length := (List.getElem?_eq_some_iff.1 h1).1
 have hiv : i < vds.length := by rw [h.len]; exact hi
 have hgr : w1.grownBy (w1.setCell ⟨g, i * 5 + 4, none⟩ vd') (some g) := ⟨rfl, rfl, rfl, by simp [World.setCell], fun k _ hk => Below.heap_setCell _ _ _ _ (fun e => hk (by rw [e]))⟩
 have hd := h.data i s vd h1 h2
 have hrw : w1.ownsRow B 32 5 (.slice (some ⟨g, 0, none⟩) L.length cap) L.length (List.zipWith zAg L vds).flatten := by
  refine h.row.kept hg1 ?_
  rcases hrow with rfl | rfl
  ·right; simp [Value.ownBlock]
  ·exact zAq h.row hd (by decide)
 have hother : ∀ (j : Nat) (x : St) (ve : Value), i ≠ j → L[j]? = some x → vds[j]? = some ve → w1.ownsRow B 9 1 ve x.data.length (x.data.map str) := by
  intro j x ve hij hx hv
  refine (h.data j x ve hx hv).kept hg1 ?_
  rcases hrow with rfl | rfl
  ·cases ve.ownBlock <;> simp
  ·cases hve : ve.ownBlock with
   | none => exact .inl rfl
   | some k => exact .inr (fun e => hij (h.apart i j vd ve k h2 hv e.symm hve))
 refine ⟨by simp [h.len], ?_, ?_, ?_⟩
 ·have := zIg hrw (i * 5 + 4) (by omega) vd'
  rw [zEr 5 _ i 4 _ _ (zLo L vds) (zKi h1 h2) (by omega)] at this
  have e : List.zipWith zAg (L.set i { s with data := D }) (vds.set i vd') = (List.zipWith zAg L vds).set i ((zAg s vd).set 4 vd') := by
   apply List.ext_getElem?
   intro j
   by_cases hij : i = j
   ·subst hij
    rw [zKi (List.getElem?_set_self hi) (List.getElem?_set_self hiv), List.getElem?_set_self (by simp [h.len, hi])]
    rfl
   ·rw [List.getElem?_set_ne hij]
    simp [List.getElem?_zipWith, List.getElem?_set_ne hij]
  rw [e]; simpa using this
 ·intro j x ve hx hv
  by_cases hij : i = j
  ·subst hij
   rw [List.getElem?_set_self hi] at hx
   rw [List.getElem?_set_self hiv] at hv
   cases hx; cases hv
   exact ho.kept hgr (zAq ho hrw (by decide))
  ·rw [List.getElem?_set_ne hij] at hx hv
   have hd := hother j x ve hij hx hv
   exact hd.kept hgr (zAq hd hrw (by decide))
 ·intro a b va vb k ha hb' hka hkb
  have hold : ∀ (j : Nat) (ve : Value) (k : Nat), vds[j]? = some ve → ve.ownBlock = some k → k < w.heap.size := by
   intro j ve k h1 h2
   have hj : j < L.length := by rw [← h.len]; exact (List.getElem?_eq_some_iff.1 h1).1
   exact ((h.data j _ ve (List.getElem?_eq_getElem hj) h1).lt k h2).2
  by_cases hia : i = a
  ·by_cases hib : i = b
   ·omega
   ·subst hia
    rw [List.getElem?_set_self hiv] at ha; cases ha
    rw [List.getElem?_set_ne hib] at hb'
    rcases hb k hka with h3 | h3
    ·exact h.apart i b vd vb k h2 hb' h3 hkb
    ·have := hold b vb k hb' hkb; omega
  ·rw [List.getElem?_set_ne hia] at ha
   by_cases hib : i = b
   ·subst hib
    rw [List.getElem?_set_self hiv] at hb'; cases hb'
    rcases hb k hkb with h3 | h3
    ·exact h.apart a i va vd k ha h2 hka h3
    ·have := hold a va k ha hka; omega
   ·rw [List.getElem?_set_ne hib] at hb'
    exact h.apart a b va vb k ha hb' hka hkb
theorem rt_sets : RowT Try.prog 25 32 5 64 := RowT.mk' (z := .agg #[.string ⟨#[]⟩, .int .i64 0, .int .i64 0, .int .i64 0, .slice none 0 0]) Try.underlying25 (by kernel_rfl) rfl (by decide) (by decide)
theorem zGx (w : World) {B : Nat} (hB : B ≤ w.heap.size) (e : TypeId) (u : Value) : (w.alloc (.cells #[u] e)).ownsRow B e 1 (.slice (some ⟨w.heap.size, 0, none⟩) 1 1) 1 [u] :=
 ⟨by simp, .inr ⟨w.heap.size, 1, #[u], rfl, hB, heap_alloc_new w _, Nat.le_refl _, by unfold maxLen; omega, by simp, by simp⟩⟩
theorem zEl {w : World} {B : Nat} {e : TypeId} {sz m n g cap : Nat} {xs : List Value} (h : w.ownsRow B e sz (.slice (some ⟨g, 0, none⟩) m cap) n xs) (j : Nat) : w.frozen? ⟨g, j, none⟩ = false := by
 obtain ⟨cur, hg⟩ := zBx h rfl
 simp [World.frozen?, hg]
theorem zRv {α : Type} {l : List α} {i : Nat} {x : α} (h : l[i]? = some x) (f : α → α) : l.modify i f = l.set i (f x) := by
 have hi : i < l.length := (List.getElem?_eq_some_iff.1 h).1
 apply List.ext_getElem?
 intro j
 rw [List.getElem?_modify]
 by_cases hij : i = j
 ·subst hij; rw [List.getElem?_set_self hi, h]; simp
 ·rw [List.getElem?_set_ne hij]; simp [hij]
theorem rowTexts {w : World} {B : Nat} {vd : Value} {D : List Bs} (hd : w.ownsRow B 9 1 vd D.length (D.map str)) : ReadsTexts w vd D := by
 have e : (D.map (fun d => [str d])).flatten = D.map str := by simp [List.flatten_eq_flatMap, List.flatMap_map, ← List.map_eq_flatMap]
 refine ⟨D.map (fun d => [str d]), by simp, ⟨by rw [e]; simp, ?_⟩, by simp, ?_⟩
 ·rcases hd.2 with h4 | ⟨g, cap, cur, rfl, _, hg, hn, hc, hs, ht⟩
  ·exact .inl h4
  ·refine .inr ⟨g, 0, cap, rfl, hn, hc, fun j u hj => ?_⟩
   rw [e] at hj
   have := hd.cells (g := g) rfl j u hj
   rw [zFc] at this; simpa using this
 ·intro j x cs hj hc
  simp only [List.getElem?_map, hj, Option.map_some, Option.some.injEq] at hc
  exact hc.symm
theorem zMi (w : World) (b j : Nat) (u : Value) : w.grownBy (w.setCell ⟨b, j, none⟩ u) (some b) :=
 ⟨rfl, rfl, rfl, by simp [World.setCell], fun k _ hk => Below.heap_setCell _ _ _ _ (fun e => hk (by rw [e]))⟩
theorem OwnSets.drew {B : Nat} {w : World} {v : Value} {L : List St} {vds : List Value} (h : OwnSets B w v L vds) : OwnSets B w.drew v L vds := ⟨h.len, h.row, h.data, h.apart⟩
theorem OwnSets.drewN {B : Nat} {w : World} {v : Value} {L : List St} {vds : List Value} (h : OwnSets B w v L vds) (n : Nat) : OwnSets B (w.drewN n) v L vds := ⟨h.len, h.row, h.data, h.apart⟩
theorem zIl {w : World} {v : Value} {l : List Bs} (h : ReadsTexts w v l) (n : Nat) : ReadsTexts (w.drewN n) v l := h
theorem below_drewN' {B : Nat} {w w' : World} (h : Below B w w') (n : Nat) : Below B w (w'.drewN n) := ⟨h.os, h.tape, h.output, h.size, h.block⟩
theorem zJt (w : World) (row : Option Nat) : w.grownBy w row := ⟨rfl, rfl, rfl, Nat.le_refl _, fun _ _ _ => rfl⟩
end Go.Proofs.Ytblhnenhonfpnaa
