/- DERIVED. Texts put together: Group, Gl1. -/
import Derived.Deep.DeepCutAuto
import Derived.Deep.RegionHeld3
import Derived.Deep.RegionLaw
import Derived.Test.YtblhnenhonfpnaaZ21
import Derived.Test.YtblhnenhonfpnaaZ23
set_option maxRecDepth 1000000
set_option maxHeartbeats 32000000
namespace Go.Proofs.Ytblhnenhonfpnaa
open Go.RowKit
theorem Try.laidOut : laidOutB Try.prog = true := by kernel_rfl
abbrev SK := Bs × Int × Int
def skv (k : SK) : Value := .agg #[str k.1, .int .i64 k.2.1, .int .i64 k.2.2]
def skok (k : SK) : Prop := k.1.length ≤ maxLen ∧ (Lit.int .i64 k.2.1).wf = true ∧ (Lit.int .i64 k.2.2).wf = true
theorem keyT : Try.prog.keyType 55 = true := by kernel_rfl
theorem keyC : Try.prog.cellsOf 55 = 3 := by kernel_rfl
theorem keyC9 : Try.prog.cellsOf 9 = 1 := by kernel_rfl
theorem keyC3 : Try.prog.cellsOf 3 = 1 := by kernel_rfl
theorem skKeys : Keys Try.prog 55 skv skok where
 keyed := Maps.Keyed.of_law (deep_law_laid Try.laidOut (m := 5) (by omega) (of_decide_eq_true (by kernel_rfl)) (by kernel_rfl) (by kernel_rfl))
 lit := by
  rintro ⟨s, a, b⟩ ⟨h1, h2, h3⟩
  simp only at h1 h2 h3
  exact keyOf_sii Try.underlying55 keyT keyC (by kernel_rfl) rfl rfl rfl keyC9 keyC3 keyC3 Try.underlying9 Try.underlying3 Try.underlying3 (of_decide_eq_true (by kernel_rfl)) s a b h1 h2 h3
 inj := by
  rintro ⟨s, a, b⟩ ⟨s', a', b'⟩ h
  simp [skv] at h
  simp_all
def newSet (r : Rc) : St := ⟨r.name, r.type, r.cls, r.ttl, [r.data]⟩
def addTo (s : St) (r : Rc) : St := { s with ttl := min s.ttl r.ttl, data := if r.data ∈ s.data then s.data else s.data ++ [r.data] }
def rkey (r : Rc) : SK := (lower r.name, r.type, r.cls)
def gstep (p : List St × (SK → Option Nat)) (r : Rc) : List St × (SK → Option Nat) :=
 match p.2 (rkey r) with
 | some i => if (labels r.name).2 = 0 then (p.1.modify i (addTo · r), p.2) else (p.1 ++ [newSet r], fun k => if k = rkey r then some p.1.length else p.2 k)
 | none => (p.1 ++ [newSet r], fun k => if k = rkey r then some p.1.length else p.2 k)
def gloop (l : List Rc) : List St × (SK → Option Nat) := l.foldl gstep ([], fun _ => none)
theorem zRo {l : List Rc} {k : Nat} {x : Rc} (h : l[k]? = some x) : gloop (l.take (k + 1)) = gstep (gloop (l.take k)) x := by
 rw [List.take_add_one, h]; simp [gloop]
theorem zMh (l : List Rc) : (gloop l).1.length ≤ l.length ∧ ∀ k i, (gloop l).2 k = some i → i < (gloop l).1.length := by
 have gen : ∀ (l : List Rc) (p : List St × (SK → Option Nat)), (∀ k i, p.2 k = some i → i < p.1.length) →
   (l.foldl gstep p).1.length ≤ p.1.length + l.length ∧ ∀ k i, (l.foldl gstep p).2 k = some i → i < (l.foldl gstep p).1.length := by
  intro l
  induction l with
  | nil => intro p hp; exact ⟨by simp, hp⟩
  | cons r l ih =>
   intro p hp
   have hpush : ∀ k i, (fun k => if k = rkey r then some p.1.length else p.2 k) k = some i → i < (p.1 ++ [newSet r]).length := by
    intro k i h
    simp only at h
    split at h
    ·cases h; simp
    ·have := hp k i h; simp; omega
   have hstep : (gstep p r).1.length ≤ p.1.length + 1 ∧ ∀ k i, (gstep p r).2 k = some i → i < (gstep p r).1.length := by
    unfold gstep
    split
    ·split
     ·exact ⟨by simp, fun k i h => by simpa using hp k i h⟩
     ·exact ⟨by simp, hpush⟩
    ·exact ⟨by simp, hpush⟩
   obtain ⟨h1, h2⟩ := ih (gstep p r) hstep.2
   simp only [List.foldl_cons, List.length_cons]
   exact ⟨by omega, h2⟩
 have := gen l ([], fun _ => none) (fun k i h => by cases h)
 exact ⟨by simpa [gloop] using this.1, this.2⟩
theorem OwnSets.not_map {B b n : Nat} {w : World} {v : Value} {L : List St} {vds : List Value} {f : SK → Option Int} (h : OwnSets B w v L vds) (hm : MapI Try.prog 55 3 skv skok w b n f) :
  (v.ownBlock = none ∨ v.ownBlock ≠ some b) ∧ ∀ (i : Nat) vd, vds[i]? = some vd → vd.ownBlock = none ∨ vd.ownBlock ≠ some b := by
 obtain ⟨D, ⟨es, clock, hb, _⟩, _⟩ := hm
 have key : ∀ {e : TypeId} {sz n : Nat} {v : Value} {xs : List Value}, w.ownsRow B e sz v n xs → v.ownBlock = none ∨ v.ownBlock ≠ some b := by
  intro e sz n v xs hr
  cases hv : v.ownBlock with
  | none => exact .inl rfl
  | some g =>
   refine .inr (fun e => ?_)
   obtain ⟨cur, hg⟩ := zBx hr hv
   cases e; rw [hb] at hg; cases hg
 refine ⟨key h.row, fun i vd hv => ?_⟩
 have hi : i < L.length := by rw [← h.len]; exact (List.getElem?_eq_some_iff.1 hv).1
 exact key (h.data i _ vd (List.getElem?_eq_getElem hi) hv)
def GrI (w : World) (l : List Rc) (k : Nat) (o : Value) (wr : World) : Prop :=
 ∃ vds, OwnSets w.heap.size wr o (gloop (l.take k)).1 vds ∧ MapI Try.prog 55 3 skv skok wr w.heap.size k (fun a => ((gloop (l.take k)).2 a).map (fun n : Nat => (n : Int))) ∧ Below w.heap.size w wr
theorem zeroInt (w : World) : (zeroValue 3).run Try.prog w = .ok (.int .i64 0) w := by kernel_rfl
theorem zJr (l : List Rc) : ∀ s ∈ (gloop l).1, s.data.length ≤ l.length := by
 have gen : ∀ (l : List Rc) (p : List St × (SK → Option Nat)) (n : Nat), (∀ s ∈ p.1, s.data.length ≤ n) → ∀ s ∈ (l.foldl gstep p).1, s.data.length ≤ n + l.length := by
  intro l
  induction l with
  | nil => intro p n hp s hs; simpa using hp s hs
  | cons r l ih =>
   intro p n hp s hs
   have hpush : ∀ s ∈ p.1 ++ [newSet r], s.data.length ≤ n + 1 := by
    intro s hs
    rcases List.mem_append.1 hs with h | h
    ·have := hp s h; omega
    ·simp only [List.mem_singleton] at h; subst h; simp [newSet]
   have hstep : ∀ s ∈ (gstep p r).1, s.data.length ≤ n + 1 := by
    unfold gstep
    split
    ·rename_i i _
     split
     ·intro s hs
      obtain ⟨j, hj⟩ := List.mem_iff_getElem?.1 hs
      rw [List.getElem?_modify] at hj
      cases ht : p.1[j]? with
      | none => rw [ht] at hj; cases hj
      | some t =>
      rw [ht] at hj
      simp only [Option.map_eq_map, Option.map_some, Option.some.injEq] at hj
      subst hj
      have := hp t (List.mem_of_getElem? ht)
      have h2 : (addTo t r).data.length ≤ t.data.length + 1 := by
       show (if r.data ∈ t.data then t.data else t.data ++ [r.data]).length ≤ _
       split <;> simp
      split
      ·omega
      ·omega
     ·exact hpush
    ·exact hpush
   have := ih (gstep p r) (n + 1) hstep s (by simpa using hs)
   simp only [List.length_cons]; omega
 have := gen l ([], fun _ => none) 0 (by simp)
 intro s hs; simpa using this s hs
theorem set3 {w : World} {b : Nat} {u0 u1 u2 : Value} (h0 : w.cell? ⟨b, 0, none⟩ = some u0) (h1 : w.cell? ⟨b, 1, none⟩ = some u1) (h2 : w.cell? ⟨b, 2, none⟩ = some u2) (v0 v1 v2 : Value) :
  (((w.setCell ⟨b, 0, none⟩ v0).setCell ⟨b, 1, none⟩ v1).setCell ⟨b, 2, none⟩ v2).cell? ⟨b, 0, none⟩ = some v0 ∧ (((w.setCell ⟨b, 0, none⟩ v0).setCell ⟨b, 1, none⟩ v1).setCell ⟨b, 2, none⟩ v2).cell? ⟨b, 1, none⟩ = some v1 ∧
   (((w.setCell ⟨b, 0, none⟩ v0).setCell ⟨b, 1, none⟩ v1).setCell ⟨b, 2, none⟩ v2).cell? ⟨b, 2, none⟩ = some v2 ∧ ∀ p : Addr, p.block ≠ b → (((w.setCell ⟨b, 0, none⟩ v0).setCell ⟨b, 1, none⟩ v1).setCell ⟨b, 2, none⟩ v2).cell? p = w.cell? p := by
 have o : ∀ (w : World) (i j : Nat) (v : Value), i ≠ j → (w.setCell ⟨b, i, none⟩ v).cell? ⟨b, j, none⟩ = w.cell? ⟨b, j, none⟩ := fun w i j v h => World.cell?_setCell_other w _ _ _ (by intro e; cases e; exact h rfl)
 refine ⟨?_, ?_, ?_, fun p hp => ?_⟩
 ·rw [o _ 2 0 _ (by omega), o _ 1 0 _ (by omega)]; exact World.cell?_setCell_same _ _ _ h0
 ·rw [o _ 2 1 _ (by omega)]; exact World.cell?_setCell_same _ _ _ ((o _ 0 1 _ (by omega)).trans h1)
 ·exact World.cell?_setCell_same _ _ _ (((o _ 1 2 _ (by omega)).trans (o _ 0 2 _ (by omega))).trans h2)
 ·have f : ∀ (w : World) (i : Nat) (v : Value), (w.setCell ⟨b, i, none⟩ v).cell? p = w.cell? p := fun w i v => World.cell?_setCell_other w _ _ _ (by intro e; subst e; exact hp rfl)
  rw [f, f, f]
theorem grp_key (x : Rc) (wr : World) {w' : World} (h : Below (((wr.alloc (.cells #[str x.name, .int .i64 x.type, .int .i64 x.cls, .int .i64 x.ttl, str x.data] 39)).alloc (.cells #[.string ⟨#[]⟩, .int .i64 0, .int .i64 0] 55)).drew).heap.size (((wr.alloc (.cells #[str x.name, .int .i64 x.type, .int .i64 x.cls, .int .i64 x.ttl, str x.data] 39)).alloc (.cells #[.string ⟨#[]⟩, .int .i64 0, .int .i64 0] 55)).drew) w') :
  w'.cell? ⟨wr.heap.size + 1, 0, none⟩ = some (.string ⟨#[]⟩) ∧ w'.cell? ⟨wr.heap.size + 1, 1, none⟩ = some (.int .i64 0) ∧ w'.cell? ⟨wr.heap.size + 1, 2, none⟩ = some (.int .i64 0) ∧ ∀ j, w'.frozen? ⟨wr.heap.size + 1, j, none⟩ = false := by
 have hc : ∀ j, w'.cell? ⟨wr.heap.size + 1, j, none⟩ = (#[.string ⟨#[]⟩, .int .i64 0, .int .i64 0] : Array Value)[j]? := fun j =>
  (h.cell (p := ⟨wr.heap.size + 1, j, none⟩) (by simp)).trans (zAj (w := wr.alloc (.cells #[str x.name, .int .i64 x.type, .int .i64 x.cls, .int .i64 x.ttl, str x.data] 39)) (by simp) _ _ j)
 exact ⟨hc 0, hc 1, hc 2, fun j => (h.frozen (p := ⟨wr.heap.size + 1, j, none⟩) (by simp)).trans (zKw (w := wr.alloc (.cells #[str x.name, .int .i64 x.type, .int .i64 x.cls, .int .i64 x.ttl, str x.data] 39)) (by simp) _ _ j)⟩
theorem setsGroup (v : Value) (l : List Rc) (w : World) (hl : ReadsRecs w v l) (hn : l.length ≤ 1000000) (hsm : ∀ r ∈ l, r.name.length ≤ 1000000000 ∧ (Lit.int .i64 r.type).wf = true ∧ (Lit.int .i64 r.cls).wf = true) :
  Calls Try.prog 12 #[v] w fun e w' => ∃ vr vds, e = .returned vr ∧ OwnSets w.heap.size w' vr (gloop l).1 vds ∧ Below w.heap.size w w' := by
 obtain ⟨aal, cal, eval⟩ : ∃ a c, v = .slice a l.length c := by rcases hl.at with ⟨rfl, rfl⟩ | ⟨b, o, cap, rfl, _⟩ <;> exact ⟨_, _, rfl⟩
 subst eval
 have hmm := @run_makeMap Try.prog
 go_enter Try.func12, Try.ntmps12
 go_wp2
 go_loopw [3, 14] (fun o i wr => ∃ k : Nat, k ≤ l.length ∧ i = .int .i64 k ∧ GrI w l k o wr) (fun _ i _ => l.length - (intOf i).toNat)
 case atStart => exact ⟨0, Nat.zero_le _, rfl, [], zOu _ _, mapI_made _ _ _ _ _ _, (Below.refl _ _).alloc (Nat.le_refl _) _⟩
 case round =>
  obtain ⟨k, hk, rfl, vds, hown, hmap, hbw⟩ := hrel
  have hsz := hbw.size
  by_cases hlt : k < l.length
  ·have hl' := zIk hl hbw
   obtain ⟨s1, s2, s3⟩ := hsm l[k] (List.getElem_mem hlt)
   have hxa : l[k]? = some l[k] := List.getElem?_eq_getElem hlt
   generalize l[k] = x at hxa s1 s2 s3
   rcases hl'.at with ⟨h, rfl⟩ | ⟨ba, oa, capa, h, _, _, ga⟩
   ·simp at hlt
   simp only [Value.slice.injEq, Option.some.injEq, Addr.mk.injEq, and_true] at h
   first | (obtain ⟨rfl, -, -⟩ := h) | (obtain ⟨⟨rfl, rfl⟩, -, -⟩ := h) | (obtain ⟨⟨rfl, rfl⟩, -⟩ := h) | (obtain ⟨rfl, -⟩ := h)
   obtain ⟨csa, hcsa, rfl, ga⟩ := ga k x hxa
   have a0 := ga 0 _ rfl
   have a1 := ga 1 _ rfl
   have a2 := ga 2 _ rfl
   have a3 := ga 3 _ rfl
   have a4 := ga 4 _ rfl
   simp only [Nat.add_zero, Nat.mul_one] at a0
   clear ga
   have HX := Lib.hid hxa
   clear hl hxa hsm
   go_upto_region 6 with fail
   obtain ⟨xb, hxb⟩ : ∃ xb, xb = wr.heap.size := ⟨_, rfl⟩
   go_cut [7] (fun k7 w7 => ∃ kb, k7 = .pointer (some ⟨kb, 0, none⟩) ∧ w7.cell? ⟨kb, 0, none⟩ = some (str (lower x.name)) ∧ w7.cell? ⟨kb, 1, none⟩ = some (.int .i64 x.type) ∧ w7.cell? ⟨kb, 2, none⟩ = some (.int .i64 x.cls) ∧
    Below wr.heap.size wr w7 ∧ w7.cell? ⟨wr.heap.size, 0, none⟩ = some (str x.name) ∧ w7.cell? ⟨wr.heap.size, 1, none⟩ = some (.int .i64 x.type) ∧ w7.cell? ⟨wr.heap.size, 2, none⟩ = some (.int .i64 x.cls) ∧
    w7.cell? ⟨wr.heap.size, 3, none⟩ = some (.int .i64 x.ttl) ∧ w7.cell? ⟨wr.heap.size, 4, none⟩ = some (str x.data) ∧ wr.heap.size < w7.heap.size ∧ kb < w7.heap.size)
   case first =>
    clear hown hmap
    go_region_held3 (fun w' => w'.cell? ⟨wr.heap.size, 0, none⟩ = some (str x.name) ∧ w'.cell? ⟨wr.heap.size, 1, none⟩ = some (.int .i64 x.type) ∧ w'.cell? ⟨wr.heap.size, 2, none⟩ = some (.int .i64 x.cls))
     (first | (exact ⟨hx0, hx1, hx2⟩) | (exact ⟨zAd hx0 _, zAd hx1 _, zAd hx2 _⟩) | (refine ⟨?_, ?_, ?_⟩ <;> (simp [go_sem]; done)) | (refine ⟨?_, ?_, ?_⟩ <;> (simp [World.cell?_setCell_far, hx0, hx1, hx2]; done)) | (exact ⟨zAd (zAj rfl _ _ _) _, zAd (zAj rfl _ _ _) _, zAd (zAj rfl _ _ _) _⟩))
     (first | (go_at_call 37; refine (zMq _ _ s1).mono ?_; rintro e w' ⟨rfl, hb'⟩; refine cutIn (p := w'.cell? ⟨wr.heap.size, 0, none⟩ = some (str x.name) ∧ w'.cell? ⟨wr.heap.size, 1, none⟩ = some (.int .i64 x.type) ∧ w'.cell? ⟨wr.heap.size, 2, none⟩ = some (.int .i64 x.cls)) ?_ (fun hx => ?_); (first | (focus (refine ⟨cell_later hb' ?_, cell_later hb' ?_, cell_later hb' ?_⟩ <;> (simp [go_sem]; done))) | (exact ⟨cell_later hb' (zAd (zAj rfl _ _ _) _), cell_later hb' (zAd (zAj rfl _ _ _) _), cell_later hb' (zAd (zAj rfl _ _ _) _)⟩)); obtain ⟨hx0, hx1, hx2⟩ := hx; try (refine cutIn (p := w'.cell? ⟨wr.heap.size + 1, 0, none⟩ = some (.string ⟨#[]⟩) ∧ w'.cell? ⟨wr.heap.size + 1, 1, none⟩ = some (.int .i64 0) ∧ w'.cell? ⟨wr.heap.size + 1, 2, none⟩ = some (.int .i64 0) ∧ ∀ j, w'.frozen? ⟨wr.heap.size + 1, j, none⟩ = false) ?_ (fun kc => ?_); (focus (exact grp_key x wr hb')); obtain ⟨kc0, kc1, kc2, kf⟩ := kc)))
    ·go_wp2_with fail
     go_meet
     have hbx : Below wr.heap.size wr w' := ((Below.refl _ wr).alloc (Nat.le_refl _) (.cells #[str x.name, .int .i64 x.type, .int .i64 x.cls, .int .i64 x.ttl, str x.data] 39)).drew.trans (hb'.mono (by simp))
     have hx : ∀ j, w'.cell? ⟨wr.heap.size, j, none⟩ = (#[str x.name, .int .i64 x.type, .int .i64 x.cls, .int .i64 x.ttl, str x.data] : Array Value)[j]? := fun j => (hb'.cell (p := ⟨wr.heap.size, j, none⟩) (by simp)).trans (zAj rfl _ _ j)
     have hz : wr.heap.size < w'.heap.size := by have := hb'.size; simp at this; omega
     exact ⟨w'.heap.size, rfl, zAj rfl _ _ 0, zAj rfl _ _ 1, zAj rfl _ _ 2, hbx.alloc (by omega) _, zAd (hx 0) _, zAd (hx 1) _, zAd (hx 2) _, zAd (hx 3) _, zAd (hx 4) _, by simp; omega, by simp⟩
    ·go_wp2_with fail
     go_meet
     have hbx : Below wr.heap.size wr w' := (((Below.refl _ wr).alloc (Nat.le_refl _) (.cells #[str x.name, .int .i64 x.type, .int .i64 x.cls, .int .i64 x.ttl, str x.data] 39)).alloc (by simp) _).drew.trans (hb'.mono (by simp; omega))
     have hx : ∀ j, w'.cell? ⟨wr.heap.size, j, none⟩ = (#[str x.name, .int .i64 x.type, .int .i64 x.cls, .int .i64 x.ttl, str x.data] : Array Value)[j]? := fun j => (hb'.cell (p := ⟨wr.heap.size, j, none⟩) (by simp; omega)).trans ((Below.cell ((Below.refl _ (wr.alloc _)).alloc (Nat.le_refl _) _) (p := ⟨wr.heap.size, j, none⟩) (by simp)).trans (zAj rfl _ _ j))
     have hz : wr.heap.size + 1 < w'.heap.size := by have := hb'.size; simp at this; omega
     obtain ⟨r0, r1, r2, r3⟩ := set3 kc0 kc1 kc2 (str (lower x.name)) (.int .i64 x.type) (.int .i64 x.cls)
     have hx' : ∀ j, (((w'.setCell ⟨wr.heap.size + 1, 0, none⟩ (str (lower x.name))).setCell ⟨wr.heap.size + 1, 1, none⟩ (.int .i64 x.type)).setCell ⟨wr.heap.size + 1, 2, none⟩ (.int .i64 x.cls)).cell? ⟨wr.heap.size, j, none⟩ = (#[str x.name, .int .i64 x.type, .int .i64 x.cls, .int .i64 x.ttl, str x.data] : Array Value)[j]? := fun j => (r3 _ (by simp)).trans (hx j)
     exact ⟨wr.heap.size + 1, rfl, r0, r1, r2, ((hbx.setCell (p := ⟨wr.heap.size + 1, 0, none⟩) (by simp) _).setCell (p := ⟨wr.heap.size + 1, 1, none⟩) (by simp) _).setCell (p := ⟨wr.heap.size + 1, 2, none⟩) (by simp) _, hx' 0, hx' 1, hx' 2, hx' 3, hx' 4, by simp; omega, by simp; omega⟩
   case rest =>
    obtain ⟨kb, rfl, k0, k1, k2, hb7, x0, x1, x2, x3, x4, hz1, hz2⟩ := hcut
    have hown7 := hown.below hb7
    have hmap7 := hmap.kept (row := none) ⟨hb7.os, hb7.tape, hb7.output, hb7.size, fun j hj _ => hb7.block j hj⟩ (by simp)
    have hbw7 := belowN hbw hsz hb7
    have hok : skok (rkey x) := ⟨by unfold maxLen; simp only [rkey, lower, List.length_map]; omega, s2, s3⟩
    have hinv := zMh (l.take k)
    have hlen : (gloop (l.take k)).1.length ≤ k := by have := hinv.1; simp at this; omega
    have hwfn : ((gloop (l.take k)).1.length : Int) ≤ 9223372036854775807 := by omega
    have hlook := hmap7.look skKeys Try.underlying52 Try.underlying3 (zeroInt _) (rkey x) hok
    obtain ⟨oa, oc, rfl⟩ : ∃ a c, u3 = .slice a (gloop (l.take k)).1.length c := by
     rcases hown.row.2 with ⟨h, h'⟩ | ⟨g, cap, cur, h, _⟩
     ·rw [h', h]; exact ⟨_, _, rfl⟩
     ·exact ⟨_, _, h⟩
    have hstep := zRo HX.out
    cases hf : (gloop (l.take k)).2 (rkey x) with
    | none =>
     rw [hf] at hlook
     simp only [Option.map_none, Option.getD_none, Option.isSome_none, skv, rkey] at hlook
     have hG : gloop (l.take (k + 1)) = ((gloop (l.take k)).1 ++ [newSet x], fun a => if a = rkey x then some (gloop (l.take k)).1.length else (gloop (l.take k)).2 a) := by rw [hstep]; unfold gstep; rw [hf]
     have HG := Lib.hid hG
     have k0' := True.intro
     clear hstep hf hG hinv hown
     obtain ⟨w8, hrun, hmap8, hg8⟩ := hmap7.put skKeys Try.underlying52 Try.underlying3 (by unfold maxLen; omega) (rkey x) hok (((gloop (l.take k)).1.length : Nat) : Int) (wf_i64 (by omega) (by omega))
     have hrun' : ∀ (_ : True), (Instr.mapUpdate 52 (.map (some w.heap.size)) (.agg #[str (lower x.name), .int .i64 x.type, .int .i64 x.cls]) (.int .i64 ((gloop (l.take k)).1.length : Nat))).run Try.prog wc = .ok () w8 := fun _ => hrun
     have hrun := hrun' trivial
     clear hrun'
     have hne : ∀ j, some (⟨wr.heap.size, j, none⟩ : Addr).block ≠ some w.heap.size := fun j e => by have := hmap.lt; simp at e; omega
     have y0 := hg8.cell x0 (hne 0)
     have y1 := hg8.cell x1 (hne 1)
     have y2 := hg8.cell x2 (hne 2)
     have y3 := hg8.cell x3 (hne 3)
     have y4 := hg8.cell x4 (hne 4)
     have hown8 : OwnSets w.heap.size w8 (.slice oa (gloop (l.take k)).1.length oc) (gloop (l.take k)).1 vds := hown7.kept hg8 (hown7.not_map hmap7).1 (hown7.not_map hmap7).2
     have hbw8 : Below w.heap.size w w8 := hbw7.grown hg8 (by omega) (fun j e => by cases e; exact Nat.le_refl _)
     have hs8 := hg8.size
     have HM8 := Lib.hid hmap8
     have HG8 := Lib.hid hg8
     clear hmap8 hg8 x0 x1 x2 x3 x4 hown7 hmap7 hb7 hbw7 k0'
     go_wp2_with (at_builtin; refine halt ?_)
     refine unhalt ?_
     refine zEn rt_sets _ _ rfl rfl (hown8.row.alloc _) (hbw8.alloc (by omega) _) _ rfl (by simp) rfl rfl rfl (by unfold room; omega) (by simp; omega) ?_
     intro g cap w9 hg9 ho9 hb9 hs9 hgr9 hd9
     have hpush := OwnSets.push (s := newSet x) hown8 (World.grownBy_alloc w8 (.cells #[str x.data] 9) none) (zGx w8 (by omega) 9 (str x.data)) (fun j e => by cases e; exact Nat.le_refl _) ho9 hgr9
     have hm9 : MapI Try.prog 55 3 skv skok w9 w.heap.size (k + 1) (fun a => ((gloop (l.take (k + 1))).2 a).map (fun n : Nat => (n : Int))) := by
      have h1 := (HM8.out.kept (World.grownBy_alloc w8 (.cells #[str x.data] 9) none) (by simp)).kept hgr9 (fun e => by
       rcases (hown8.not_map HM8.out).1 with h | h
       ·rw [h] at e; cases e
       ·exact h e.symm)
      rw [HG.out]
      refine h1.congr (fun a => ?_)
      by_cases ha : a = rkey x <;> simp [ha]
     have HP := Lib.hid hpush
     have HM9 := Lib.hid hm9
     clear hpush hm9 ho9 hown8
     go_wp2
     go_roundw
     case rel => exact ⟨k + 1, by omega, by go_num, _, by rw [HG.out]; exact HP.out, HM9.out, hb9⟩
     case measure => simp [intOf]; omega
    | some i =>
     rw [hf] at hlook
     simp only [Option.map_some, Option.getD_some, Option.isSome_some, skv, rkey] at hlook
     have hi : i < (gloop (l.take k)).1.length := hinv.2 _ _ hf
     by_cases hck : (labels x.name).2 = 0
     ·have hck' : ((labels x.name).2 != 0) = false := by simpa using hck
      have hsL : (gloop (l.take k)).1[i]? = some (gloop (l.take k)).1[i] := List.getElem?_eq_getElem hi
      generalize (gloop (l.take k)).1[i] = s at hsL
      have hG : gloop (l.take (k + 1)) = ((gloop (l.take k)).1.set i (addTo s x), (gloop (l.take k)).2) := by
       rw [hstep]; unfold gstep; rw [hf]; simp only [if_pos hck]
       rw [zRv hsL]
      have HG := Lib.hid hG
      have hiv : i < vds.length := by rw [hown.len]; exact hi
      have hvd : vds[i]? = some vds[i] := List.getElem?_eq_getElem hiv
      generalize vds[i] = vd at hvd
      obtain ⟨og, rfl⟩ : ∃ og, oa = some ⟨og, 0, none⟩ := by
       rcases hown.row.2 with ⟨h, h'⟩ | ⟨g, cap, cur, h, _⟩
       ·omega
       ·cases h; exact ⟨_, rfl⟩
      have hog0 := (hown.row.lt og rfl).2
      clear hstep hf hG hinv hown hck
      go_wp2_with (go_at_call 38; refine (zBe _ _ s1).mono ?_; rintro e w1 ⟨rfl, hb1⟩; refine halt ?_)
      replace hown7 := hown7.below hb1
      replace hmap7 := hmap7.kept (row := none) ⟨hb1.os, hb1.tape, hb1.output, hb1.size, fun j hj _ => hb1.block j hj⟩ (by simp)
      have hz7 := hb1.size
      replace hbw7 := belowN hbw7 (by omega) hb1
      replace x0 := cell_later hb1 x0
      replace x1 := cell_later hb1 x1
      replace x2 := cell_later hb1 x2
      replace x3 := cell_later hb1 x3
      replace x4 := cell_later hb1 x4
      replace hz1 : wr.heap.size < w1.heap.size := by omega
      have hd := hown7.data i s vd hsL hvd
      obtain ⟨da, dc, rfl⟩ : ∃ a c, vd = .slice a s.data.length c := by
       rcases hd.2 with ⟨h, h'⟩ | ⟨g, cap, cur, h, _⟩
       ·rw [h', h]; exact ⟨_, _, rfl⟩
       ·exact ⟨_, _, h⟩
      have hcl := hown7.cells hsL hvd
      have e3 := hcl 3 _ rfl
      have e4 := hcl 4 _ rfl
      have hfr := zEl hown7.row
      have hog := (hown7.row.lt og rfl)
      clear hb1 hlook k0 k1 k2 hb7
      have HOWN := Lib.hid hown7
      have HMAP := Lib.hid hmap7
      clear hcl hd hown7 hmap7 hmap
      refine unhalt ?_
      go_wp2
      go_still_tail 10, (by kernel_rfl)
      change wpList _ _ _ _ _ w1.drew
      go_upto_region 13 with fail
      obtain ⟨W2, hW2⟩ : ∃ W2, W2 = (w1.setCell ⟨og, i * 5 + 3, none⟩ (.int .i64 (if x.ttl < s.ttl then x.ttl else s.ttl))).drew := ⟨_, rfl⟩
      have hg2 : w1.grownBy W2 (some og) := by rw [hW2]; exact grownDrew (zMi w1 og _ _)
      have hne : ∀ j, some (⟨wr.heap.size, j, none⟩ : Addr).block ≠ some og := fun j e => by simp at e; omega
      have y4 := hg2.cell x4 (hne 4)
      have own2 : OwnSets w.heap.size W2 (.slice (some ⟨og, 0, none⟩) (gloop (l.take k)).1.length oc) ((gloop (l.take k)).1.set i { s with ttl := min s.ttl x.ttl }) vds := by
       have := HOWN.out.setTtl hsL (min s.ttl x.ttl)
       rw [hW2, min_if]; exact OwnSets.drew this
      have map2 := HMAP.out.kept hg2 (by
        rcases (HOWN.out.not_map HMAP.out).1 with h | h
        ·cases h
        ·exact fun e => h e.symm)
      have hbw2 : Below w.heap.size w W2 := hbw7.grown hg2 (by omega) (fun j e => by cases e; exact hog.1)
      have hs2 := hg2.size
      have hsL2 : ((gloop (l.take k)).1.set i { s with ttl := min s.ttl x.ttl })[i]? = some { s with ttl := min s.ttl x.ttl } := List.getElem?_set_self (by have := (List.getElem?_eq_some_iff.1 hsL).1; exact this)
      have hd2 := own2.data i _ _ hsL2 hvd
      have hrt := rowTexts hd2
      have f4 := own2.cells hsL2 hvd
      have f4 := f4 4 _ rfl
      have hfr2 := zEl own2.row
      have hap : some og ≠ (Value.slice da s.data.length dc).ownBlock := by
       rcases zAq own2.row hd2 (by decide) with h | h
       ·cases h
       ·exact h
      have hogl : og < W2.heap.size := (own2.row.lt og rfl).2
      have hlaw : ∀ (q : Nat) (w9 : World), (W2.drewN q).grownBy w9 (Value.slice da s.data.length dc).ownBlock → w9.cell? ⟨og, i * 5 + 4, none⟩ = some (.slice da s.data.length dc) ∧ w9.frozen? ⟨og, i * 5 + 4, none⟩ = false := by
       intro q w9 hg9
       have hb9 : w9.heap[og]? = (W2.drewN q).heap[og]? := hg9.block og hogl hap
       exact ⟨(World.cell?_of_block (w := W2.drewN q) (a := ⟨og, i * 5 + 4, none⟩) hb9).trans f4, (World.frozen?_of_block (w := W2.drewN q) (a := ⟨og, i * 5 + 4, none⟩) hb9).trans (hfr2 _)⟩
      have HLAW := Lib.hid hlaw
      clear hlaw hap
      rw [← hW2]
      clear hW2 x0 x1 x2 x3 x4 e3 e4 hfr hbw7
      have hnm := own2.not_map map2
      have HNM := Lib.hid hnm
      clear hnm
      have OWN2 := Lib.hid own2
      have MAP2 := Lib.hid map2
      have HD2 := Lib.hid hd2
      have G2 := Lib.hid hg2
      clear own2 map2 hd2 hg2
      by_cases hin : x.data ∈ s.data
      ·have hin' : decide (x.data ∈ s.data) = true := by simp [hin]
       go_quiet ((go_at_call 39; exact Calls.quiet_of_same ((zEm _ _ _ _ (zIl hrt _)).mono (fun _ _ ⟨h1, h2⟩ => ⟨h1, h2.symm⟩))))
       have hadd : addTo s x = { s with ttl := min s.ttl x.ttl } := by simp [addTo, hin]
       have HA := Lib.hid hadd
       clear hadd hin
       go_wp2
       go_roundw
       case rel => exact ⟨k + 1, by omega, by go_num, vds, by rw [HG.out, HA.out]; exact OwnSets.drewN OWN2.out _, by rw [HG.out]; exact zMr (MAP2.out.kept (row := none) (zJs (zJt W2 _) _) (by simp)) (by omega), below_drewN' hbw2 _⟩
       case measure => simp [intOf]; omega
      ·have hin' : decide (x.data ∈ s.data) = false := by simp [hin]
       go_quiet ((go_at_call 39; exact Calls.quiet_of_same ((zEm _ _ _ _ (zIl hrt _)).mono (fun _ _ ⟨h1, h2⟩ => ⟨h1, h2.symm⟩))))
       go_upto_region 14 with fail
       have hdl : s.data.length < 1000001 := by have := zJr (l.take k) s (List.mem_of_getElem? hsL); simp at this; omega
       have al1 := fun o => zAd f4 o
       have al2 := fun o => zAd y4 o
       have al3 := fun q o => zAd (w := W2.drewN q) f4 o
       have al4 := fun q o => zAd (w := W2.drewN q) y4 o
       have hadd : addTo s x = { s with ttl := min s.ttl x.ttl, data := s.data ++ [x.data] } := by simp [addTo, hin]
       have HA := Lib.hid hadd
       clear hadd
       go_region_law ((refine zNh zQp _ _ (by rfl) (by rfl) (rowDrewN HD2.out _) (zRd hbw2 _) _ (by rfl) (by simp; rfl) (by rfl) (by rfl) (by rfl) (by unfold room; simp; omega) (by simp; omega) ?_; intro g9 cap9 w9 hg9 ho9 hb9 hs9 hgr9 hd9; obtain ⟨z4, zf⟩ := HLAW.out _ _ hgr9))
       all_goals
        have HD := Lib.hid (OwnSets.setData (OwnSets.drewN OWN2.out _) hsL2 hvd hgr9 (.inr rfl) (D := s.data ++ [x.data]) (by simpa using ho9) (fun j e => by cases e; exact hd9))
        have HM := Lib.hid (MapI.kept (MapI.kept (MAP2.out.kept (row := none) (zJs (zJt W2 _) _) (by simp)) hgr9 (by
         rcases HNM.out.2 i _ hvd with h | h
         ·rw [h]; simp
         ·exact fun e => h e.symm)) (zMi w9 og (i * 5 + 4) (.slice (some ⟨g9, 0, none⟩) (s.data.length + 1) cap9)) (by
         rcases HNM.out.1 with h | h
         ·cases h
         ·exact fun e => h e.symm))
        clear hgr9 ho9 hd9
        go_wp2
        go_roundw
        case rel => exact ⟨k + 1, by omega, by go_num, _, by rw [HG.out, HA.out]; have := HD.out; rw [List.set_set] at this; exact this, by rw [HG.out]; exact zMr HM.out (by omega), hb9.setCell (p := ⟨og, i * 5 + 4, none⟩) hog.1 _⟩
        case measure => simp [intOf]; omega
     ·have hck' : ((labels x.name).2 != 0) = true := by simpa using hck
      have hG : gloop (l.take (k + 1)) = ((gloop (l.take k)).1 ++ [newSet x], fun a => if a = rkey x then some (gloop (l.take k)).1.length else (gloop (l.take k)).2 a) := by rw [hstep]; unfold gstep; rw [hf]; simp only [if_neg hck]
      have HG := Lib.hid hG
      have k0' := True.intro
      clear hstep hf hG hinv hown hck
      go_wp2_with (go_at_call 38; refine (zBe _ _ s1).mono ?_; rintro e w1 ⟨rfl, hb1⟩; refine halt ?_)
      replace hown7 := hown7.below hb1
      replace hmap7 := hmap7.kept (row := none) ⟨hb1.os, hb1.tape, hb1.output, hb1.size, fun j hj _ => hb1.block j hj⟩ (by simp)
      have hz7 := hb1.size
      replace hbw7 := belowN hbw7 (by omega) hb1
      replace x0 := cell_later hb1 x0
      replace x1 := cell_later hb1 x1
      replace x2 := cell_later hb1 x2
      replace x3 := cell_later hb1 x3
      replace x4 := cell_later hb1 x4
      replace k0 := cell_later hb1 k0
      replace k1 := cell_later hb1 k1
      replace k2 := cell_later hb1 k2
      replace hz1 : wr.heap.size < w1.heap.size := by omega
      replace hz2 : kb < w1.heap.size := by omega
      clear hb1 hlook
      refine unhalt ?_
      obtain ⟨w8, hrun, hmap8, hg8⟩ := hmap7.put skKeys Try.underlying52 Try.underlying3 (by unfold maxLen; omega) (rkey x) hok (((gloop (l.take k)).1.length : Nat) : Int) (wf_i64 (by omega) (by omega))
      have hrun' : ∀ (_ : True), (Instr.mapUpdate 52 (.map (some w.heap.size)) (.agg #[str (lower x.name), .int .i64 x.type, .int .i64 x.cls]) (.int .i64 ((gloop (l.take k)).1.length : Nat))).run Try.prog w1 = .ok () w8 := fun _ => hrun
      have hrun := hrun' trivial
      clear hrun'
      have hne : ∀ j, some (⟨wr.heap.size, j, none⟩ : Addr).block ≠ some w.heap.size := fun j e => by have := hmap.lt; simp at e; omega
      have y0 := hg8.cell x0 (hne 0)
      have y1 := hg8.cell x1 (hne 1)
      have y2 := hg8.cell x2 (hne 2)
      have y3 := hg8.cell x3 (hne 3)
      have y4 := hg8.cell x4 (hne 4)
      have hown8 : OwnSets w.heap.size w8 (.slice oa (gloop (l.take k)).1.length oc) (gloop (l.take k)).1 vds := hown7.kept hg8 (hown7.not_map hmap7).1 (hown7.not_map hmap7).2
      have hbw8 : Below w.heap.size w w8 := hbw7.grown hg8 (by omega) (fun j e => by cases e; exact Nat.le_refl _)
      have hs8 := hg8.size
      have HM8 := Lib.hid hmap8
      have HG8 := Lib.hid hg8
      clear hmap8 hg8 x0 x1 x2 x3 x4 hown7 hmap7 hb7 hbw7 k0'
      go_wp2_with (at_builtin; refine halt ?_)
      refine unhalt ?_
      refine zEn rt_sets _ _ rfl rfl (hown8.row.alloc _) (hbw8.alloc (by omega) _) _ rfl (by simp) rfl rfl rfl (by unfold room; omega) (by simp; omega) ?_
      intro g cap w9 hg9 ho9 hb9 hs9 hgr9 hd9
      have hpush := OwnSets.push (s := newSet x) hown8 (World.grownBy_alloc w8 (.cells #[str x.data] 9) none) (zGx w8 (by omega) 9 (str x.data)) (fun j e => by cases e; exact Nat.le_refl _) ho9 hgr9
      have hm9 : MapI Try.prog 55 3 skv skok w9 w.heap.size (k + 1) (fun a => ((gloop (l.take (k + 1))).2 a).map (fun n : Nat => (n : Int))) := by
       have h1 := (HM8.out.kept (World.grownBy_alloc w8 (.cells #[str x.data] 9) none) (by simp)).kept hgr9 (fun e => by
        rcases (hown8.not_map HM8.out).1 with h | h
        ·rw [h] at e; cases e
        ·exact h e.symm)
       rw [HG.out]
       refine h1.congr (fun a => ?_)
       by_cases ha : a = rkey x <;> simp [ha]
      have HP := Lib.hid hpush
      have HM9 := Lib.hid hm9
      clear hpush hm9 ho9 hown8
      go_wp2
      go_roundw
      case rel => exact ⟨k + 1, by omega, by go_num, _, by rw [HG.out]; exact HP.out, HM9.out, hb9⟩
      case measure => simp [intOf]; omega
  ·have hall : l.take k = l := List.take_of_length_le (by omega)
   rw [hall] at hown
   obtain ⟨oa, oc, rfl⟩ : ∃ a c, u3 = .slice a (gloop l).1.length c := by
    rcases hown.row.2 with ⟨h, h'⟩ | ⟨g, cap, cur, h, _⟩
    ·rw [h', h]; exact ⟨_, _, rfl⟩
    ·exact ⟨_, _, h⟩
   have HO := Lib.hid hown
   clear hown hmap hall
   go_wp2
   go_ret
   exact ⟨_, vds, rfl, HO.out, hbw⟩
end Go.Proofs.Ytblhnenhonfpnaa
namespace Go.Proofs.Ytblhnenhonfpnaa
open Go Go.RowKit
def skey (s : St) : SK := (lower s.name, s.type, s.cls)
structure GI (l : List Rc) (p : List St × (SK → Option Nat)) : Prop where
 is : ∀ k i, p.2 k = some i → ∃ s, p.1[i]? = some s ∧ skey s = k
 key : ∀ i s, p.1[i]? = some s → p.2 (skey s) = some i
 ok : ∀ s ∈ p.1, (labels s.name).2 = 0
 nd : ∀ s ∈ p.1, s.data.Nodup ∧ s.data ≠ []
 mem : ∀ s ∈ p.1, ∀ d, d ∈ s.data ↔ ∃ r ∈ l, rkey r = skey s ∧ r.data = d
 ttl : ∀ s ∈ p.1, (∃ r ∈ l, rkey r = skey s ∧ r.ttl = s.ttl) ∧ ∀ r ∈ l, rkey r = skey s → s.ttl ≤ r.ttl
 all : ∀ r ∈ l, ∃ i, p.2 (rkey r) = some i
 nm : ∀ s ∈ p.1, ∃ r ∈ l, r.name = s.name ∧ rkey r = skey s
theorem zQs (s : St) (r : Rc) : skey (addTo s r) = skey s := rfl
theorem zHp (r : Rc) : skey (newSet r) = rkey r := rfl
theorem GI.step {l : List Rc} {p : List St × (SK → Option Nat)} {r : Rc} (h : GI l p) (hr : (labels r.name).2 = 0) : GI (l ++ [r]) (gstep p r) := by
 have memA : ∀ (q : Rc → Prop), (∃ x ∈ l ++ [r], q x) ↔ (∃ x ∈ l, q x) ∨ q r := fun q => by
  constructor
  ·rintro ⟨x, hx, hq⟩
   rcases List.mem_append.1 hx with hx | hx
   ·exact .inl ⟨x, hx, hq⟩
   ·rw [List.mem_singleton.1 hx] at hq; exact .inr hq
  ·rintro (⟨x, hx, hq⟩ | hq)
   ·exact ⟨x, List.mem_append_left _ hx, hq⟩
   ·exact ⟨r, List.mem_append_right _ (List.mem_singleton.2 rfl), hq⟩
 unfold gstep
 cases hk : p.2 (rkey r) with
 | some i =>
  simp only
  rw [if_pos hr]
  obtain ⟨s0, hs0, he0⟩ := h.is _ _ hk
  have hget : ∀ j s, (p.1.modify i (addTo · r))[j]? = some s → ∃ t, p.1[j]? = some t ∧ ((j = i ∧ s = addTo t r) ∨ (j ≠ i ∧ s = t)) := fun j s hj => by
   rw [List.getElem?_modify] at hj
   cases ht : p.1[j]? with
   | none => rw [ht] at hj; simp at hj
   | some t =>
    rw [ht] at hj
    by_cases e : i = j
    ·subst e; simp at hj; exact ⟨t, rfl, .inl ⟨rfl, hj.symm⟩⟩
    ·simp [e] at hj; exact ⟨t, rfl, .inr ⟨fun q => e q.symm, hj.symm⟩⟩
  have hm : ∀ s ∈ p.1.modify i (addTo · r), ∃ t ∈ p.1, (skey t = rkey r ∧ s = addTo t r) ∨ (skey t ≠ rkey r ∧ s = t) := fun s hs => by
   obtain ⟨j, hj⟩ := List.getElem?_of_mem hs
   obtain ⟨t, ht, ⟨e, e2⟩ | ⟨e, e2⟩⟩ := hget j s hj
   ·subst e
    rw [hs0] at ht; cases ht
    exact ⟨s0, List.mem_of_getElem? hs0, .inl ⟨he0, e2⟩⟩
   ·refine ⟨t, List.mem_of_getElem? ht, .inr ⟨fun q => e ?_, e2⟩⟩
    have := h.key _ _ ht
    rw [q, hk] at this
    simpa using this.symm
  have hfw : ∀ k j, p.2 k = some j → ∃ s, (p.1.modify i (addTo · r))[j]? = some s ∧ skey s = k := fun k j hj => by
   obtain ⟨t, ht, e⟩ := h.is _ _ hj
   rw [List.getElem?_modify, ht]
   by_cases q : i = j
   ·simp [q]; exact e
   ·simp [q]; exact e
  refine ⟨hfw, fun j s hj => ?_, fun s hs => ?_, fun s hs => ?_, fun s hs d => ?_, fun s hs => ?_, fun x hx => ?_, fun s hs => ?_⟩
  ·obtain ⟨t, ht, ⟨_, e⟩ | ⟨_, e⟩⟩ := hget j s hj <;> rw [e] <;> exact (show p.2 (skey t) = some j from h.key _ _ ht)
  ·obtain ⟨t, ht, ⟨_, e⟩ | ⟨_, e⟩⟩ := hm s hs <;> rw [e] <;> exact h.ok t ht
  ·obtain ⟨t, ht, ⟨_, e⟩ | ⟨_, e⟩⟩ := hm s hs
   ·obtain ⟨n1, n2⟩ := h.nd t ht
    rw [e]; unfold addTo
    by_cases q : r.data ∈ t.data
    ·simp only [if_pos q]; exact ⟨n1, n2⟩
    ·simp only [if_neg q]
     refine ⟨List.nodup_append.2 ⟨n1, by simp, fun a ha b hb => ?_⟩, by simp⟩
     rw [List.mem_singleton.1 hb]; exact fun e => q (e ▸ ha)
   ·rw [e]; exact h.nd t ht
  ·rw [memA]
   obtain ⟨t, ht, ⟨ek, e⟩ | ⟨ek, e⟩⟩ := hm s hs
   ·rw [e, zQs, ← h.mem t ht d]
    unfold addTo
    by_cases q : r.data ∈ t.data
    ·simp only [if_pos q]
     exact ⟨.inl, fun o => o.elim id fun ⟨_, e2⟩ => e2 ▸ q⟩
    ·simp only [if_neg q, List.mem_append, List.mem_singleton]
     exact ⟨fun o => o.imp id fun e2 => ⟨ek.symm, e2.symm⟩, fun o => o.imp id fun ⟨_, e2⟩ => e2.symm⟩
   ·rw [e, ← h.mem t ht d]
    exact ⟨.inl, fun o => o.elim id fun ⟨e2, _⟩ => absurd e2.symm ek⟩
  ·obtain ⟨t, ht, ⟨ek, e⟩ | ⟨ek, e⟩⟩ := hm s hs
   ·obtain ⟨⟨x, hx, x1, x2⟩, y⟩ := h.ttl t ht
    rw [e, zQs]
    have hmin : (addTo t r).ttl = min t.ttl r.ttl := rfl
    rw [hmin]
    refine ⟨?_, fun z hz e2 => ?_⟩
    ·rcases Int.le_total t.ttl r.ttl with q | q
     ·exact ⟨x, List.mem_append_left _ hx, x1, by rw [x2]; omega⟩
     ·exact ⟨r, List.mem_append_right _ (List.mem_singleton.2 rfl), ek.symm, by omega⟩
    ·rcases List.mem_append.1 hz with hz | hz
     ·have := y z hz e2; omega
     ·rw [List.mem_singleton.1 hz]; omega
   ·obtain ⟨⟨x, hx, x1, x2⟩, y⟩ := h.ttl t ht
    rw [e]
    refine ⟨⟨x, List.mem_append_left _ hx, x1, x2⟩, fun z hz e2 => ?_⟩
    rcases List.mem_append.1 hz with hz | hz
    ·exact y z hz e2
    ·rw [List.mem_singleton.1 hz] at e2; exact absurd e2.symm ek
  ·rcases List.mem_append.1 hx with hx | hx
   ·exact h.all x hx
   ·rw [List.mem_singleton.1 hx]; exact ⟨i, hk⟩
  ·obtain ⟨t, ht, ⟨_, e⟩ | ⟨_, e⟩⟩ := hm s hs <;> obtain ⟨x, hx, e2⟩ := h.nm t ht <;> rw [e] <;> exact ⟨x, List.mem_append_left _ hx, e2⟩
 | none =>
  simp only
  have hnk : ∀ s ∈ p.1, skey s ≠ rkey r := fun s hs e => by
   obtain ⟨j, hj⟩ := List.getElem?_of_mem hs
   have := h.key _ _ hj
   rw [e, hk] at this; cases this
  have hget : ∀ j s, (p.1 ++ [newSet r])[j]? = some s → p.1[j]? = some s ∨ (j = p.1.length ∧ s = newSet r) := fun j s hj => by
   by_cases q : j < p.1.length
   ·rw [List.getElem?_append_left q] at hj; exact .inl hj
   ·rw [List.getElem?_append_right (by omega)] at hj
    have : j - p.1.length = 0 := by have := (List.getElem?_eq_some_iff.1 hj).1; simp at this; omega
    rw [this] at hj
    simp at hj
    exact .inr ⟨by omega, hj.symm⟩
  have hm : ∀ s ∈ p.1 ++ [newSet r], s ∈ p.1 ∨ s = newSet r := fun s hs => by simpa using hs
  refine ⟨fun k j hj => ?_, fun j s hj => ?_, fun s hs => ?_, fun s hs => ?_, fun s hs d => ?_, fun s hs => ?_, fun x hx => ?_, fun s hs => ?_⟩
  ·by_cases e : k = rkey r
   ·simp only [if_pos e, Option.some.injEq] at hj
    exact ⟨newSet r, by rw [← hj]; simp, by rw [zHp, e]⟩
   ·simp only [if_neg e] at hj
    obtain ⟨s, hs, e2⟩ := h.is _ _ hj
    exact ⟨s, by rw [List.getElem?_append_left ((List.getElem?_eq_some_iff.1 hs).1)]; exact hs, e2⟩
  ·show (if skey s = rkey r then some p.1.length else p.2 (skey s)) = some j
   rcases hget j s hj with hj | ⟨e1, e2⟩
   ·rw [if_neg (hnk s (List.mem_of_getElem? hj))]; exact h.key _ _ hj
   ·rw [e2, zHp, if_pos rfl, e1]
  ·rcases hm s hs with hs | e
   ·exact h.ok s hs
   ·rw [e]; exact hr
  ·rcases hm s hs with hs | e
   ·exact h.nd s hs
   ·rw [e]; exact ⟨by simp [newSet], by simp [newSet]⟩
  ·rw [memA]
   rcases hm s hs with hs | e
   ·rw [← h.mem s hs d]
    exact ⟨.inl, fun o => o.elim id fun ⟨e2, _⟩ => absurd e2.symm (hnk s hs)⟩
   ·rw [e, zHp]
    constructor
    ·intro hd
     have e9 : d = r.data := by simpa [newSet] using hd
     exact .inr ⟨rfl, e9.symm⟩
    ·rintro (⟨x, hx, e2, _⟩ | ⟨_, e2⟩)
     ·obtain ⟨i, hi⟩ := h.all x hx
      rw [e2, hk] at hi; cases hi
     ·simp [newSet, e2]
  ·rcases hm s hs with hs | e
   ·obtain ⟨⟨x, hx, x1, x2⟩, y⟩ := h.ttl s hs
    refine ⟨⟨x, List.mem_append_left _ hx, x1, x2⟩, fun z hz e2 => ?_⟩
    rcases List.mem_append.1 hz with hz | hz
    ·exact y z hz e2
    ·rw [List.mem_singleton.1 hz] at e2; exact absurd e2.symm (hnk s hs)
   ·rw [e, zHp]
    refine ⟨⟨r, List.mem_append_right _ (List.mem_singleton.2 rfl), rfl, rfl⟩, fun z hz e2 => ?_⟩
    rcases List.mem_append.1 hz with hz | hz
    ·obtain ⟨i, hi⟩ := h.all z hz
     rw [e2, hk] at hi; cases hi
    ·rw [List.mem_singleton.1 hz]; exact Int.le_refl _
  ·rcases List.mem_append.1 hx with hx | hx
   ·obtain ⟨i, hi⟩ := h.all x hx
    exact ⟨i, by show (if rkey x = rkey r then some p.1.length else p.2 (rkey x)) = some i; rw [if_neg (fun e => by rw [e, hk] at hi; cases hi)]; exact hi⟩
   ·rw [List.mem_singleton.1 hx]; exact ⟨p.1.length, if_pos rfl⟩
  ·rcases hm s hs with hs | e
   ·obtain ⟨x, hx, e2⟩ := h.nm s hs
    exact ⟨x, List.mem_append_left _ hx, e2⟩
   ·rw [e]; exact ⟨r, List.mem_append_right _ (List.mem_singleton.2 rfl), rfl, rfl⟩
theorem zRn (l : List Rc) (r : Rc) : gloop (l ++ [r]) = gstep (gloop l) r := by unfold gloop; rw [List.foldl_append]; rfl
theorem gloop_gi (l : List Rc) (hl : ∀ r ∈ l, (labels r.name).2 = 0) : GI l (gloop l) := by
 have gen : ∀ n, GI (l.take n) (gloop (l.take n)) := by
  intro n
  induction n with
  | zero =>
   rw [List.take_zero]
   have e : ∀ s : St, s ∈ (gloop []).1 → False := fun s hs => by cases hs
   exact ⟨fun k i h => (by cases h), fun i s h => (e s (List.mem_of_getElem? h)).elim, fun s hs => (e s hs).elim, fun s hs => (e s hs).elim, fun s hs => (e s hs).elim, fun s hs => (e s hs).elim, fun r hr => (by cases hr), fun s hs => (e s hs).elim⟩
  | succ n ih =>
   by_cases h : n < l.length
   ·rw [List.take_succ_eq_append_getElem h, zRn]
    exact ih.step (hl _ (List.getElem_mem h))
   ·rw [List.take_of_length_le (by omega)] at ih ⊢; exact ih
 have := gen l.length
 rwa [List.take_length] at this
end Go.Proofs.Ytblhnenhonfpnaa
