/- DERIVED. Texts put together: Tq18, Tq16. -/
import Derived.Test.YtpdeidlkeplegaaZ13
import Derived.Test.YtpdeidlkeplegaaZ15
import Derived.Test.YtpdeidlkeplegaaZ23
set_option maxRecDepth 1000000
set_option maxHeartbeats 32000000
namespace Go.Proofs.Ytpdeidlkeplegaa
open Go Go.RowKit
theorem zMj : zLk (evT Try.prog 0 [zMa] 1000000 (.call 6 []) fs0) = true := by kernel_rfl
theorem zLg (w : World) (hpos : 0 < w.heap.size) : Calls Try.prog 6 #[] w fun e w' => e = .returned (.bool true) ∧ Below w.heap.size w w' := evT_true mixed [zMa] 1000000 _ zMj w hpos
noncomputable def inl_new20 : Ct Try.prog 0 := Ct.inl (tbOf mixed []) mixed [] 10 Try.f10 Try.func10 (bodyOf Try.f10) (by kernel_rfl)
noncomputable def zMz : Tb Try.prog 0 := tbOf mixed [Ct.yes 6 zLg, ct_pick, inl_new20, ct_touch, ct_idle, inl_has20, inl_allT, ct_whens, ct_any, ct_sameI]
theorem zKb {l l' : List CliX} (h : rangeC l) (e : keysC l' = keysC l) : rangeC l' := fun c hc => by
 have h1 : c.n ∈ keysC l := e ▸ List.mem_map_of_mem hc
 obtain ⟨d, hd, hde⟩ := List.mem_map.1 h1
 exact hde ▸ h d hd
theorem zLh {l : List CliX} {a w : Int} {b : Bool} (h : hasC l a = true) : (putC l a w b).length = l.length := by unfold putC; rw [if_pos h, List.length_map]
theorem zKl (most : Int) (l : List CliX) (ck : Nat) (n now : Int) {G : Prop}
  (h1 : ∀ e : Int, e ≠ 0 → touchF most l ck n now = (0, false, e, l, ck) → (e = 8 → most ≤ (l.length : Int) ∧ (mayC l).length = 0) → G)
  (h2 : hasC l n = true → ∀ w, touchF most l ck n now = (0, false, 0, putC l n w (idleC l n), ck) → G)
  (h3 : hasC l n = false → (l.length : Int) < most → touchF most l ck n now = (0, false, 0, l ++ [⟨n, now, false⟩], ck + 1) → G)
  (h4 : hasC l n = false → most ≤ (l.length : Int) → (mayC l).length ≠ 0 → touchF most l ck n now = (minF l (mayC l), true, 0, delC l (minF l (mayC l)) ++ [⟨n, now, false⟩], ck + 1) → G) : G := by
 by_cases a1 : (decide (now < 0) || decide (now > 1099511627776)) = true
 ·exact h1 2 (by decide) (by unfold touchF; rw [if_pos a1]) (fun h => absurd h (by decide))
 by_cases a2 : hasC l n = true
 ·exact h2 a2 _ (by unfold touchF; rw [if_neg a1, if_pos a2])
 have a2' : hasC l n = false := by simpa using a2
 by_cases a3 : decide ((l.length : Int) < most) = true
 ·exact h3 a2' (of_decide_eq_true a3) (by unfold touchF; rw [if_neg a1, if_neg a2, if_pos a3])
 have a3' : most ≤ (l.length : Int) := by have : ¬ (l.length : Int) < most := fun h => a3 (decide_eq_true h); omega
 by_cases a4 : (mayC l).length = 0
 ·exact h1 8 (by decide) (by unfold touchF; rw [if_neg a1, if_neg a2, if_neg a3, if_pos a4]) (fun _ => ⟨a3', a4⟩)
 ·exact h4 a2' a3' a4 (by unfold touchF; rw [if_neg a1, if_neg a2, if_neg a3, if_neg a4])
theorem zNz {l : List CliX} {a : Int} : a ∈ mayC l ↔ a ∈ keysC l ∧ idleC l a = true := by
 unfold mayC delF
 rw [List.mem_filter, (zAe _).mem_iff]
theorem zOa {l : List CliX} (h : (mayC l).length ≠ 0) : minF l (mayC l) ∈ keysC l ∧ idleC l (minF l (mayC l)) = true := zNz.1 (zQa h)
theorem len_del {l : List CliX} {a : Int} (hn : (keysC l).Nodup) (h : a ∈ keysC l) : (delC l a).length + 1 = l.length := by
 obtain ⟨A, c, B, rfl, rfl⟩ := splitC h
 rw [zPe hn, List.length_append, List.length_append, List.length_cons]; omega
theorem zRt {most : Int} {l : List CliX} {ck : Nat} {n now : Int} (hm : 1 ≤ most) (hn : (keysC l).Nodup) (hr : rangeC l) (hl : (l.length : Int) ≤ most) (hnr : -9223372036854775808 ≤ n ∧ n ≤ 9223372036854775807) :
  (keysC (touchF most l ck n now).2.2.2.1).Nodup ∧ rangeC (touchF most l ck n now).2.2.2.1 ∧ ((touchF most l ck n now).2.2.2.1.length : Int) ≤ most := by
 have happ : ∀ {l' : List CliX}, (keysC l').Nodup → n ∉ keysC l' → (keysC (l' ++ [⟨n, now, false⟩])).Nodup := fun h1 h2 => by
  unfold keysC at h1 h2 ⊢
  rw [List.map_append, List.nodup_append]
  exact ⟨h1, by simp, fun a ha c hc => by simp at hc; subst hc; exact fun e => h2 (e ▸ ha)⟩
 have hrap : ∀ {l' : List CliX}, rangeC l' → rangeC (l' ++ [⟨n, now, false⟩]) := fun h c hc => by
  rcases List.mem_append.1 hc with hc | hc
  ·exact h c hc
  ·rw [List.mem_singleton.1 hc]; exact hnr
 have hno : hasC l n = false → n ∉ keysC l := fun h hk => by rw [zAn.2 hk] at h; cases h
 refine zKl most l ck n now (fun e _ hT _ => ?_) (fun hh w hT => ?_) (fun hh hlt hT => ?_) (fun hh hge hmm hT => ?_)
 ·rw [hT]; exact ⟨hn, hr, hl⟩
 ·rw [hT]; exact ⟨by show (keysC (putC l n w _)).Nodup; rw [zCg hh]; exact hn, zKb hr (zCg hh), by show ((putC l n w _).length : Int) ≤ _; rw [zLh hh]; exact hl⟩
 ·rw [hT]; exact ⟨happ hn (hno hh), hrap hr, by show ((l ++ [_]).length : Int) ≤ _; rw [List.length_append]; simp only [List.length_singleton]; omega⟩
 ·rw [hT]
  have hk := (zOa hmm).1
  have hd := len_del hn hk
  have hsub : ∀ c ∈ delC l (minF l (mayC l)), c ∈ l := fun c hc => (List.mem_filter.1 hc).1
  refine ⟨happ (hn.sublist (List.Sublist.map _ (List.filter_sublist ..))) (fun h => hno hh ?_), hrap (fun c hc => hr c (hsub c hc)), ?_⟩
  ·obtain ⟨c, hc, e⟩ := List.mem_map.1 h
   exact e ▸ List.mem_map_of_mem (hsub c hc)
  ·show ((delC l (minF l (mayC l)) ++ [_]).length : Int) ≤ _
   rw [List.length_append]; simp only [List.length_singleton]; omega
theorem zLw {l : List CliX} {E : List (Int × Bool)} {n now : Int} (hag : agreeC l E) (hh : hasC l n = false) : agreeC (l ++ [⟨n, now, false⟩]) (delB E n) := fun a ha => by
 have hno : n ∉ keysC l := fun hk => by rw [zAn.2 hk] at hh; cases hh
 rw [zPm]
 unfold keysC at ha
 rw [List.map_append] at ha
 have hid : idleC (l ++ [⟨n, now, false⟩]) a = if a = n then false else idleC l a := by
  unfold idleC getC
  rw [List.find?_append]
  by_cases hc : a = n
  ·subst hc
   have : l.find? (fun c => c.n == a) = none := List.find?_eq_none.2 fun q hq e => hno ((by simpa using e : q.n = a) ▸ List.mem_map_of_mem hq)
   rw [this]; simp
  ·rw [if_neg hc]
   cases hf : l.find? (fun c => c.n == a) with
   | some q => rfl
   | none => simp [show (n == a) = false from by simpa using fun e : n = a => hc e.symm]
 rw [hid]
 split
 ·rfl
 ·rename_i hne
  rcases List.mem_append.1 ha with h | h
  ·exact hag a h
  ·exact absurd (List.mem_singleton.1 h) hne
theorem goes_has {l : List CliX} {o n now : Int} (hne : o ≠ n) : hasC (delC l o ++ [⟨n, now, false⟩]) o = false := by
 cases hb : hasC (delC l o ++ [⟨n, now, false⟩]) o
 ·rfl
 ·have hk := zAn.1 hb
  unfold keysC at hk
  rw [List.map_append] at hk
  rcases List.mem_append.1 hk with h | h
  ·obtain ⟨c, hc, e⟩ := List.mem_map.1 h
   have h2 := (List.mem_filter.1 hc).2
   rw [e] at h2
   simp at h2
  ·exact absurd (List.mem_singleton.1 h) hne
structure GiX where
 most : Int
 L : List ActC
 l : List CliX
 E : List (Int × Bool)
 c2 : Nat
 lT : List CliX
 cT : Nat
 i : Nat
 x : ActC
 had : Bool
 o : Int
 g : Bool
 W : List Int
 cW : Nat
 N : List Int
def giL (y : GiX) (k : Nat) : List (Nat × Value) := [(0, .int .i64 y.most), (1, trAct y.L), (5, .bool true), (6, .pointer (some ⟨1, 0, none⟩)), (8, .map (some 2)), (9, .int .i64 (y.i : Nat)), (10, .pointer (some ⟨3, 0, none⟩)), (11, trI y.W), (12, .map (some 4)), (13, .bool y.had), (14, .int .i64 y.o), (15, .bool y.g), (17, trI y.N), (18, .int .i64 (k : Nat))]
def giB (y : GiX) : List (Nat × AObj) := [(0, .map (encC y.lT) y.cT), (1, tabO y.most 0), (2, .map (encV (kB y.E)) y.c2), (3, .cells [.int .i64 y.x.k, .int .i64 y.x.n, .int .i64 y.x.now, .bool y.x.is] 38), (4, .map (encV (kI (whenL y.l y.W))) y.cW)]
def giS (y : GiX) (k : Nat) (f : Nat → Option Value) : Fs := ⟨slots 8 (giL y k) f, heap 3 (giB y), 5, [], []⟩
theorem goes_in (y : GiX) (hy : y.W.length ≤ 1000000 ∧ (keysV (kB y.E)).Nodup ∧ (keysV (kI (whenL y.l y.W))).Nodup ∧ y.g = true ∧ goodC y.most y.lT ∧ y.o ∈ y.W)
  (h1 : ∀ a ∈ y.W, getB y.E a = true → whenC y.l y.o ≤ whenC y.l a) (h2 : ∀ a ∈ y.W, a ≠ y.o → hasC y.lT a = true)
  {K : Ex → Fs → Prop} {s : Fs} (h0 : ∃ f, RcM Try.prog 0 0 (2 + (Try.f7.ntmps - 2)) none s (giS y 0 f))
  (hK : ∀ f, K (.exit 2) (giS y y.W.length f)) : LW Try.prog 0 0 (2 + (Try.f7.ntmps - 2)) none (loopAt Try.f7 1) s K := by
 obtain ⟨most, L, l, E, c2, lT, cT, i, x, had, o, g, W, cW, N⟩ := y
 obtain ⟨hW, hE, hI, hgg, hgT, hoW⟩ := hy
 have hW : W.length ≤ 1000000 := hW
 have hE : (keysV (kB E)).Nodup := hE
 have hI : (keysV (kI (whenL l W))).Nodup := hI
 have hgg : g = true := hgg
 have hgT : goodC most lT := hgT
 have hoW : o ∈ W := hoW
 have h1 : ∀ a ∈ W, getB E a = true → whenC l o ≤ whenC l a := h1
 have h2 : ∀ a ∈ W, a ≠ o → hasC lT a = true := h2
 subst hgg
 refine zCh (fun (k : Nat) f => giS ⟨most, L, l, E, c2, lT, cT, i, x, had, o, true, W, cW, N⟩ k f) (fun k => W.length - k) (fun k => k ≤ W.length) 0 (Nat.zero_le _) h0 ?_
 intro k f hk
 have hk : k ≤ W.length := hk
 refine zJb zMz [900006, 900007, 900005] 0 _ none mixed _ _ _ ?_
 refine ifK (fun g1 => ?_) (fun g1 => ?_)
 ·have g1 : k < W.length := by have g1 : ((k : Nat) : Int) < (W.length : Int) := of_decide_eq_true g1; omega
  have hWk : W[k] ∈ W := List.getElem_mem g1
  refine And.intro (by kernel_rfl) ?_
  refine ifK (fun _ => ?_) (fun h => absurd h (by simp [inI]; omega))
  refine Exists.intro W[k] (And.intro (zBw layI g1) ?_)
  refine Exists.intro (.bool (getB E W[k])) (Exists.intro [] (Exists.intro 0 (And.intro (Eq.trans (zHw (e := 4) (l := kB E) (a := W[k]) (ck := c2) (r := 2) (ok := false) rfl rfl rfl (by kernel_rfl) zJg rfl rfl hE) (by rw [zLv]; rfl)) ?_)))
  refine ifK (fun hb => ?_) (fun _ => ?_)
  ·have hb : getB E W[k] = true := hb
   refine ifK (fun _ => ?_) (fun h => absurd h (by simp [inI]; omega))
   refine Exists.intro W[k] (And.intro (zBw layI g1) ?_)
   refine Exists.intro (.int .i64 (getI (whenL l W) W[k])) (Exists.intro [] (Exists.intro 0 (And.intro (Eq.trans (zHw (e := 3) (l := kI (whenL l W)) (a := W[k]) (ck := cW) (r := 4) (ok := false) rfl rfl rfl (by kernel_rfl) zQn rfl rfl hI) (by rw [zOu]; rfl)) ?_)))
   refine Exists.intro (.int .i64 (getI (whenL l W) o)) (Exists.intro [] (Exists.intro 0 (And.intro (Eq.trans (zHw (e := 3) (l := kI (whenL l W)) (a := o) (ck := cW) (r := 4) (ok := false) rfl rfl rfl (by kernel_rfl) zQn rfl rfl hI) (by rw [zOu]; rfl)) ?_)))
   refine ifK (fun h => ?_) (fun _ => ?_)
   ·exfalso
    have h : decide (getI (whenL l W) W[k] < getI (whenL l W) o) = true := h
    have h := of_decide_eq_true h
    rw [zIf (show W[k] ∈ W from hWk), zIf (show o ∈ W from hoW)] at h
    have : whenC l o ≤ whenC l W[k] := h1 _ hWk hb
    omega
   refine ifK (fun _ => ?_) (fun h => absurd h (by simp [inI]; omega))
   refine Exists.intro W[k] (And.intro (zBw layI g1) ?_)
   refine ifK (fun h => ?_) (fun _ => ?_)
   ·have h : (W[k] != o) = true := h
    refine ifK (fun _ => ?_) (fun h => absurd h (by simp [inI]; omega))
    refine Exists.intro W[k] (And.intro (zBw layI g1) ?_)
    refine Exists.intro ⟨1, 0, most, lT, cT, W[k], true⟩ (And.intro ⟨⟨rfl, rfl⟩, ⟨by kernel_rfl, by kernel_rfl⟩, hgT⟩ ?_)
    refine ifK (fun h2' => absurd (show (!hasC lT W[k]) = true from h2') (by rw [h2 _ hWk (by simpa using h)]; decide)) (fun _ => ?_)
    exact ⟨k + 1, g1, by show W.length - (k + 1) < W.length - k; omega, rcq [0, 1, 2, 3, 4] ⟨⟨_, rfl, .int _ _⟩, ⟨_, rfl, zAb 8 rfl⟩, ⟨_, rfl, .bool _⟩, ⟨_, rfl, .ptr _ _ _ rfl⟩, ⟨_, rfl, .map _ _ rfl⟩, ⟨_, rfl, .int _ _⟩, ⟨_, rfl, .ptr _ _ _ rfl⟩, ⟨_, rfl, zAb 8 rfl⟩, ⟨_, rfl, .map _ _ rfl⟩, ⟨_, rfl, .bool _⟩, ⟨_, rfl, .int _ _⟩, ⟨_, rfl, .bool _⟩, ⟨_, rfl, zAb 8 rfl⟩, zAc rfl (by show IntKind.i64.wrap ((k : Int) + 1) = ((k + 1 : Nat) : Int); rw [wrapN (by omega) (by omega)]; omega), trivial⟩ ⟨⟨by decide, _, rfl, zAd _ _⟩, ⟨by decide, _, rfl, zAk rfl⟩, ⟨by decide, _, rfl, zAf (zAo _) _⟩, bpo rfl, ⟨by decide, _, rfl, zAf (zBy _) _⟩, trivial⟩ .nil⟩
   ·exact ⟨k + 1, g1, by show W.length - (k + 1) < W.length - k; omega, rcq [0, 1, 2, 3, 4] ⟨⟨_, rfl, .int _ _⟩, ⟨_, rfl, zAb 8 rfl⟩, ⟨_, rfl, .bool _⟩, ⟨_, rfl, .ptr _ _ _ rfl⟩, ⟨_, rfl, .map _ _ rfl⟩, ⟨_, rfl, .int _ _⟩, ⟨_, rfl, .ptr _ _ _ rfl⟩, ⟨_, rfl, zAb 8 rfl⟩, ⟨_, rfl, .map _ _ rfl⟩, ⟨_, rfl, .bool _⟩, ⟨_, rfl, .int _ _⟩, ⟨_, rfl, .bool _⟩, ⟨_, rfl, zAb 8 rfl⟩, zAc rfl (by show IntKind.i64.wrap ((k : Int) + 1) = ((k + 1 : Nat) : Int); rw [wrapN (by omega) (by omega)]; omega), trivial⟩ ⟨⟨by decide, _, rfl, zAd _ _⟩, ⟨by decide, _, rfl, zAk rfl⟩, ⟨by decide, _, rfl, zAf (zAo _) _⟩, bpo rfl, ⟨by decide, _, rfl, zAf (zBy _) _⟩, trivial⟩ .nil⟩
  ·refine ifK (fun _ => ?_) (fun h => absurd h (by simp [inI]; omega))
   refine Exists.intro W[k] (And.intro (zBw layI g1) ?_)
   refine ifK (fun h => ?_) (fun _ => ?_)
   ·have h : (W[k] != o) = true := h
    refine ifK (fun _ => ?_) (fun h => absurd h (by simp [inI]; omega))
    refine Exists.intro W[k] (And.intro (zBw layI g1) ?_)
    refine Exists.intro ⟨1, 0, most, lT, cT, W[k], true⟩ (And.intro ⟨⟨rfl, rfl⟩, ⟨by kernel_rfl, by kernel_rfl⟩, hgT⟩ ?_)
    refine ifK (fun h2' => absurd (show (!hasC lT W[k]) = true from h2') (by rw [h2 _ hWk (by simpa using h)]; decide)) (fun _ => ?_)
    exact ⟨k + 1, g1, by show W.length - (k + 1) < W.length - k; omega, rcq [0, 1, 2, 3, 4] ⟨⟨_, rfl, .int _ _⟩, ⟨_, rfl, zAb 8 rfl⟩, ⟨_, rfl, .bool _⟩, ⟨_, rfl, .ptr _ _ _ rfl⟩, ⟨_, rfl, .map _ _ rfl⟩, ⟨_, rfl, .int _ _⟩, ⟨_, rfl, .ptr _ _ _ rfl⟩, ⟨_, rfl, zAb 8 rfl⟩, ⟨_, rfl, .map _ _ rfl⟩, ⟨_, rfl, .bool _⟩, ⟨_, rfl, .int _ _⟩, ⟨_, rfl, .bool _⟩, ⟨_, rfl, zAb 8 rfl⟩, zAc rfl (by show IntKind.i64.wrap ((k : Int) + 1) = ((k + 1 : Nat) : Int); rw [wrapN (by omega) (by omega)]; omega), trivial⟩ ⟨⟨by decide, _, rfl, zAd _ _⟩, ⟨by decide, _, rfl, zAk rfl⟩, ⟨by decide, _, rfl, zAf (zAo _) _⟩, bpo rfl, ⟨by decide, _, rfl, zAf (zBy _) _⟩, trivial⟩ .nil⟩
   ·exact ⟨k + 1, g1, by show W.length - (k + 1) < W.length - k; omega, rcq [0, 1, 2, 3, 4] ⟨⟨_, rfl, .int _ _⟩, ⟨_, rfl, zAb 8 rfl⟩, ⟨_, rfl, .bool _⟩, ⟨_, rfl, .ptr _ _ _ rfl⟩, ⟨_, rfl, .map _ _ rfl⟩, ⟨_, rfl, .int _ _⟩, ⟨_, rfl, .ptr _ _ _ rfl⟩, ⟨_, rfl, zAb 8 rfl⟩, ⟨_, rfl, .map _ _ rfl⟩, ⟨_, rfl, .bool _⟩, ⟨_, rfl, .int _ _⟩, ⟨_, rfl, .bool _⟩, ⟨_, rfl, zAb 8 rfl⟩, zAc rfl (by show IntKind.i64.wrap ((k : Int) + 1) = ((k + 1 : Nat) : Int); rw [wrapN (by omega) (by omega)]; omega), trivial⟩ ⟨⟨by decide, _, rfl, zAd _ _⟩, ⟨by decide, _, rfl, zAk rfl⟩, ⟨by decide, _, rfl, zAf (zAo _) _⟩, bpo rfl, ⟨by decide, _, rfl, zAf (zBy _) _⟩, trivial⟩ .nil⟩
 ·have g1 : ¬ k < W.length := fun e => absurd (show ((k : Nat) : Int) < (W.length : Int) by omega) (of_decide_eq_false g1)
  have hkl : k = W.length := by omega
  subst hkl
  exact And.intro rfl (zDx (rcq [0, 1, 2, 3, 4] (d := 8) (d2 := 3) (lv := giL ⟨most, L, l, E, c2, lT, cT, i, x, had, o, true, W, cW, N⟩ W.length) (bs := giB ⟨most, L, l, E, c2, lT, cT, i, x, had, o, true, W, cW, N⟩) (W := []) (m := 5) (df := []) ⟨⟨_, rfl, .int _ _⟩, ⟨_, rfl, zAb 8 rfl⟩, ⟨_, rfl, .bool _⟩, ⟨_, rfl, .ptr _ _ _ rfl⟩, ⟨_, rfl, .map _ _ rfl⟩, ⟨_, rfl, .int _ _⟩, ⟨_, rfl, .ptr _ _ _ rfl⟩, ⟨_, rfl, zAb 8 rfl⟩, ⟨_, rfl, .map _ _ rfl⟩, ⟨_, rfl, .bool _⟩, ⟨_, rfl, .int _ _⟩, ⟨_, rfl, .bool _⟩, ⟨_, rfl, zAb 8 rfl⟩, ⟨_, rfl, .int _ _⟩, trivial⟩ ⟨⟨by decide, _, rfl, zAd _ _⟩, ⟨by decide, _, rfl, zAk rfl⟩, ⟨by decide, _, rfl, zAf (zAo _) _⟩, bpo rfl, ⟨by decide, _, rfl, zAf (zBy _) _⟩, trivial⟩ .nil) hK)
end Go.Proofs.Ytpdeidlkeplegaa
namespace Go.Proofs.Ytpdeidlkeplegaa
open Go Go.RowKit
theorem goes_keep {l : List CliX} {o n now a : Int} (ha : a ∈ keysC l) (hne : a ≠ o) : hasC (delC l o ++ [⟨n, now, false⟩]) a = true := by
 refine zAn.2 ?_
 unfold keysC at ha ⊢
 rw [List.map_append]
 obtain ⟨c, hc, e⟩ := List.mem_map.1 ha
 refine List.mem_append.2 (.inl (List.mem_map.2 ⟨c, List.mem_filter.2 ⟨hc, ?_⟩, e⟩))
 rw [e]
 simpa using hne
theorem has_del {l : List CliX} {o n : Int} (hh : hasC l n = false) : hasC (delC l o) n = false := by
 cases hb : hasC (delC l o) n
 ·rfl
 ·obtain ⟨c, hc, e⟩ := List.mem_map.1 (zAn.1 hb)
  rw [zAn.2 (e ▸ List.mem_map_of_mem (List.mem_filter.1 hc).1)] at hh
  cases hh
theorem agree_del {l : List CliX} {E : List (Int × Bool)} {o : Int} (hag : agreeC l E) : agreeC (delC l o) (delB E o) := fun a ha => by
 obtain ⟨c, hc, e⟩ := List.mem_map.1 ha
 obtain ⟨hc1, hc2⟩ := List.mem_filter.1 hc
 rw [e] at hc2
 have hne : a ≠ o := by simpa using hc2
 rw [zPm, if_neg hne, hag a (e ▸ List.mem_map_of_mem hc1)]
 unfold idleC getC delC
 rw [List.find?_filter]
 congr 2
 refine congrArg (fun f => List.find? f l) (funext fun p => ?_)
 by_cases hp : p.n = a
 ·subst hp
  have : (p.n == o) = false := by simpa using hne
  simp [this]
 ·have : (p.n == a) = false := by simpa using hp
  simp [this]
def goesS (most : Int) (L : List ActC) (l : List CliX) (ck : Nat) (E : List (Int × Bool)) (c2 i : Nat) (f : Nat → Option Value) : Fs := ⟨slots 8 [(0, .int .i64 most), (1, trAct L), (5, .bool true), (6, .pointer (some ⟨1, 0, none⟩)), (8, .map (some 2)), (9, .int .i64 (i : Nat))] f, heap 2 [(0, .map (encC l) ck), (1, tabO most 0), (2, .map (encV (kB E)) c2)], 3, [], []⟩
theorem goes_fn (most : Int) (L : List ActC) (hL : L.length ≤ 100000000000000 ∧ ∀ x ∈ L, -9223372036854775808 ≤ x.n ∧ x.n ≤ 9223372036854775807) : ∃ r, FnS Try.prog 0 7 [.int .i64 most, trAct L] .e 0 r ∧ ∃ H k wr, r = .ret (.bool true) H k wr := by
 refine zHg mixed zMz [900006, 900007, 900005] Try.func7 (c := bodyOf Try.f7) (by kernel_rfl) ?_
 refine ifK (fun _ => ?_) (fun g1 => ?_)
 ·exact ⟨_, _, _, rfl⟩
 refine ifK (fun _ => ?_) (fun g2 => ?_)
 ·exact ⟨_, _, _, rfl⟩
 refine ifK (fun _ => ?_) (fun g3 => ?_)
 ·exact ⟨_, _, _, rfl⟩
 have g1 : ¬ most < 1 := of_decide_eq_false g1
 have g2 : ¬ most > 1024 := of_decide_eq_false g2
 have g3 : L.length ≤ 150 := by have g3 : ¬ ((L.length : Nat) : Int) > 150 := of_decide_eq_false g3; omega
 refine zCh (fun (s : Nat × List CliX × Nat × List (Int × Bool) × Nat) f => goesS most L s.2.1 s.2.2.1 s.2.2.2.1 s.2.2.2.2 s.1 f) (fun s => L.length - s.1) (fun s => s.1 ≤ L.length ∧ ((keysC s.2.1).Nodup ∧ rangeC s.2.1 ∧ (s.2.1.length : Int) ≤ most) ∧ (keysV (kB s.2.2.2.1)).Nodup ∧ agreeC s.2.1 s.2.2.2.1) (0, [], 0, [], 0) ⟨Nat.zero_le _, ⟨List.nodup_nil, (fun c hc => by cases hc), by show ((0 : Nat) : Int) ≤ most; omega⟩, List.nodup_nil, fun a ha => by cases ha⟩ (rcq [0, 1, 2] ⟨⟨_, rfl, .int _ _⟩, ⟨_, rfl, zAb 8 rfl⟩, ⟨_, rfl, .bool _⟩, ⟨_, rfl, .ptr _ _ _ rfl⟩, ⟨_, rfl, .map _ _ rfl⟩, ⟨_, rfl, .int _ _⟩, trivial⟩ ⟨⟨by decide, _, rfl, RO.map _ _ _ .nil⟩, ⟨by decide, _, rfl, zAk rfl⟩, ⟨by decide, _, rfl, RO.map _ _ _ .nil⟩, trivial⟩ .nil) ?_
 rintro ⟨i, l, ck, E, c2⟩ f ⟨hi, ⟨hn, hr, hlm⟩, hE, hag⟩
 have hi : i ≤ L.length := hi
 have hn : (keysC l).Nodup := hn
 have hr : rangeC l := hr
 have hlm : (l.length : Int) ≤ most := hlm
 have hE : (keysV (kB E)).Nodup := hE
 have hag : agreeC l E := hag
 have hg : goodC most l := ⟨by omega, hn, hr, by omega⟩
 refine zJb zMz [900006, 900007, 900005] 0 _ none mixed _ _ _ ?_
 refine ifK (fun h1 => ?_) (fun h1 => ?_)
 ·have h1 : i < L.length := by have h1 : ((i : Nat) : Int) < (L.length : Int) := of_decide_eq_true h1; omega
  refine ifK (fun _ => ?_) (fun h2 => absurd h2 (by simp [inI]; omega))
  refine Exists.intro L[i].k (Exists.intro L[i].n (Exists.intro L[i].now (Exists.intro L[i].is (And.intro (zBw layAct h1) ?_))))
  refine ifK (fun h => absurd (show (most == 0) = true from h) (by simp; omega)) (fun _ => ?_)
  refine Exists.intro ⟨4, 0, l, ck⟩ (And.intro ⟨rfl, by kernel_rfl, by kernel_rfl, hn, hr, hg.2.2.2⟩ ?_)
  refine ifK (fun hp => ?_) (fun hp => ?_)
  ·have hig : goodC most (idleF l L[i].n L[i].is).2 := by
    unfold idleF
    cases hh : hasC l L[i].n with
    | true => exact ⟨hg.1, by show (keysC (putC l L[i].n _ _)).Nodup; rw [zCg hh]; exact hn, zKb hr (zCg hh), by show (putC l L[i].n _ _).length ≤ _; rw [zLh hh]; exact hg.2.2.2⟩
    | false => exact hg
   have hih : hasC (idleF l L[i].n L[i].is).2 L[i].n = hasC l L[i].n := by
    unfold idleF
    cases hh : hasC l L[i].n with
    | true => exact zAn.2 (by show L[i].n ∈ keysC (putC l L[i].n _ _); rw [zCg hh]; exact zAn.1 hh)
    | false => exact hh
   refine And.intro (by kernel_rfl) ?_
   refine Exists.intro ⟨1, 0, most, l, ck, L[i].n, L[i].is⟩ (And.intro ⟨rfl, ⟨by kernel_rfl, by kernel_rfl⟩, hg⟩ ?_)
   refine Exists.intro ⟨1, 0, most, (idleF l L[i].n L[i].is).2, ck, L[i].n, true⟩ (And.intro ⟨⟨rfl, rfl⟩, ⟨by kernel_rfl, by kernel_rfl⟩, hig⟩ ?_)
   have hi0 : ((idleF l L[i].n L[i].is).1 == 0) = hasC l L[i].n := by
    unfold idleF
    cases hh : hasC l L[i].n <;> rfl
   refine ifK (fun h => ?_) (fun _ => ?_)
   ·exfalso
    have h : (!(((idleF l L[i].n L[i].is).1 == 0) == hasC (idleF l L[i].n L[i].is).2 L[i].n)) = true := h
    rw [hi0, hih] at h
    simp at h
   refine Exists.intro ⟨1, 0, most, (idleF l L[i].n L[i].is).2, ck, L[i].n, true⟩ (And.intro ⟨⟨rfl, rfl⟩, ⟨by kernel_rfl, by kernel_rfl⟩, hig⟩ ?_)
   refine ifK (fun hh => ?_) (fun hh => ?_)
   ·have hh : hasC (idleF l L[i].n L[i].is).2 L[i].n = true := hh
    rw [hih] at hh
    have hl2 : (idleF l L[i].n L[i].is).2 = putC l L[i].n (whenC l L[i].n) L[i].is := by unfold idleF; rw [hh]; rfl
    refine Exists.intro undef (Exists.intro [((2 : Nat), some (AObj.map (encV (kB (putB E L[i].n L[i].is))) (bif hasV (kB E) L[i].n then c2 else c2 + 1)))] (Exists.intro (0 : Nat) (And.intro (Eq.trans (aop_kvP (e := 4) (l := kB E) (a := L[i].n) (u := .bool L[i].is) (ck := c2) (r := 2) rfl rfl rfl rfl (by kernel_rfl) rfl hE) (by rw [kB_put])) ?_)))
    refine ⟨(i + 1, (idleF l L[i].n L[i].is).2, ck, putB E L[i].n L[i].is, (bif hasV (kB E) L[i].n then c2 else c2 + 1)), ⟨h1, ⟨hig.2.1, hig.2.2.1, ?_⟩, zRf hE _ _, ?_⟩, by show L.length - (i + 1) < L.length - i; omega, rcq [0, 1, 2] ⟨⟨_, rfl, .int _ _⟩, ⟨_, rfl, zAb 8 rfl⟩, ⟨_, rfl, .bool _⟩, ⟨_, rfl, .ptr _ _ _ rfl⟩, ⟨_, rfl, .map _ _ rfl⟩, zAc rfl (by show IntKind.i64.wrap ((i : Int) + 1) = ((i + 1 : Nat) : Int); rw [wrapN (by omega) (by omega)]; omega), trivial⟩ ⟨⟨by decide, _, rfl, zAd _ _⟩, ⟨by decide, _, rfl, zAk rfl⟩, ⟨by decide, _, rfl, zAf (zAo _) _⟩, trivial⟩ .nil⟩
    ·show ((idleF l L[i].n L[i].is).2.length : Int) ≤ most
     rw [hl2, zLh hh]; exact hlm
    ·show agreeC (idleF l L[i].n L[i].is).2 (putB E L[i].n L[i].is)
     rw [hl2]
     intro a ha
     rw [zCg hh] at ha
     rw [getB_put, zPq hh]
     split
     ·rfl
     ·exact hag a ha
   ·have hh : hasC (idleF l L[i].n L[i].is).2 L[i].n = false := hh
    rw [hih] at hh
    have hl2 : (idleF l L[i].n L[i].is).2 = l := by unfold idleF; rw [hh]; rfl
    exact ⟨(i + 1, (idleF l L[i].n L[i].is).2, ck, E, c2), ⟨h1, ⟨hig.2.1, hig.2.2.1, by show ((idleF l L[i].n L[i].is).2.length : Int) ≤ most; rw [hl2]; exact hlm⟩, hE, by show agreeC (idleF l L[i].n L[i].is).2 E; rw [hl2]; exact hag⟩, by show L.length - (i + 1) < L.length - i; omega, rcq [0, 1, 2] ⟨⟨_, rfl, .int _ _⟩, ⟨_, rfl, zAb 8 rfl⟩, ⟨_, rfl, .bool _⟩, ⟨_, rfl, .ptr _ _ _ rfl⟩, ⟨_, rfl, .map _ _ rfl⟩, zAc rfl (by show IntKind.i64.wrap ((i : Int) + 1) = ((i + 1 : Nat) : Int); rw [wrapN (by omega) (by omega)]; omega), trivial⟩ ⟨⟨by decide, _, rfl, zAd _ _⟩, ⟨by decide, _, rfl, zAk rfl⟩, ⟨by decide, _, rfl, zAf (zAo _) _⟩, trivial⟩ .nil⟩
  ·have hnW : (isortI (keysC l)).Nodup := (zAe _).nodup_iff.2 hn
   have hlW : (isortI (keysC l)).length = l.length := by rw [(zAe _).length_eq]; unfold keysC; rw [List.length_map]
   refine Exists.intro ⟨1, 0, most, l, ck, isortI (keysC l)⟩ (And.intro ⟨rfl, ⟨by kernel_rfl, by kernel_rfl⟩, hg, hnW, by show (isortI (keysC l)).length ≤ _; rw [hlW]; have := hg.2.2.2; omega⟩ ?_)
   refine Exists.intro ⟨1, 0, most, l, ck, L[i].n, true⟩ (And.intro ⟨⟨rfl, rfl⟩, ⟨by kernel_rfl, by kernel_rfl⟩, hg⟩ ?_)
   refine Exists.intro ⟨1, 0, most, l, ck, L[i].n, L[i].now⟩ (And.intro ⟨rfl, ⟨by kernel_rfl, by kernel_rfl⟩, hg⟩ ?_)
   refine ifK (fun h => absurd (show (most == 0) = true from h) (by simp; omega)) (fun _ => ?_)
   have hnr := hL.2 L[i] (List.getElem_mem h1)
   obtain ⟨t1, t2, t3⟩ := zRt (ck := ck) (n := L[i].n) (now := L[i].now) hg.1 hn hr hlm hnr
   refine Exists.intro ⟨6, 0, (touchF most l ck L[i].n L[i].now).2.2.2.1, (touchF most l ck L[i].n L[i].now).2.2.2.2⟩ (And.intro ⟨rfl, by kernel_rfl, by kernel_rfl, t1, t2, by show (touchF most l ck L[i].n L[i].now).2.2.2.1.length ≤ _; omega⟩ ?_)
   refine zKl most l ck L[i].n L[i].now (fun e he hT h8 => ?_) (fun hh w hT => ?_) (fun hh hlt hT => ?_) (fun hh hge hm hT => ?_)
   ·refine ifK (fun _ => ?_) (fun h => absurd (show ((touchF most l ck L[i].n L[i].now).2.2.1 != 0) = false from h) (by rw [hT]; simpa using he))
    refine ifK (fun h => absurd (show (touchF most l ck L[i].n L[i].now).2.1 = true from h) (by rw [hT]; simp)) (fun _ => ?_)
    refine Exists.intro (isortI (keysC l), isortI (keysC (touchF most l ck L[i].n L[i].now).2.2.2.1)) (And.intro ⟨rfl, by show (isortI (keysC l)).length ≤ _; rw [hlW]; have := hg.2.2.2; omega⟩ ?_)
    refine ifK (fun h => ?_) (fun _ => ?_)
    ·exfalso
     have h : (!decide (isortI (keysC l) = isortI (keysC (touchF most l ck L[i].n L[i].now).2.2.2.1))) = true := h
     rw [hT] at h
     simp at h
    have hag' : agreeC (touchF most l ck L[i].n L[i].now).2.2.2.1 E := by rw [hT]; exact hag
    refine ifK (fun h => ?_) (fun _ => ?_)
    ·have h : ((touchF most l ck L[i].n L[i].now).2.2.1 == 8) = true := h
     rw [hT] at h
     obtain ⟨q1, q2⟩ := h8 (by simpa using h)
     refine ifK (fun h => ?_) (fun _ => ?_)
     ·exfalso
      have h : decide (((isortI (keysC l)).length : Int) < most) = true := h
      rw [hlW] at h
      have := of_decide_eq_true h
      omega
     refine Exists.intro ⟨2, isortI (keysC l), E, c2⟩ (And.intro ⟨rfl, by kernel_rfl, hE, by show (isortI (keysC l)).length ≤ _; rw [hlW]; have := hg.2.2.2; omega⟩ ?_)
     have hany : (isortI (keysC l)).any (getB E) = false := by
      rw [List.any_eq_false]
      intro a ha hb
      have ha := (zAe _).mem_iff.1 ha
      have : a ∈ mayC l := zNz.2 ⟨ha, by rw [← hag a ha]; exact hb⟩
      rw [List.length_eq_zero_iff.1 q2] at this
      cases this
     refine ifK (fun h => absurd (show (isortI (keysC l)).any (getB E) = true from h) (by rw [hany]; decide)) (fun _ => ?_)
     exact ⟨(i + 1, (touchF most l ck L[i].n L[i].now).2.2.2.1, (touchF most l ck L[i].n L[i].now).2.2.2.2, E, c2), ⟨h1, ⟨t1, t2, t3⟩, hE, hag'⟩, by show L.length - (i + 1) < L.length - i; omega, rcq [0, 1, 2] ⟨⟨_, rfl, .int _ _⟩, ⟨_, rfl, zAb 8 rfl⟩, ⟨_, rfl, .bool _⟩, ⟨_, rfl, .ptr _ _ _ rfl⟩, ⟨_, rfl, .map _ _ rfl⟩, zAc rfl (by show IntKind.i64.wrap ((i : Int) + 1) = ((i + 1 : Nat) : Int); rw [wrapN (by omega) (by omega)]; omega), trivial⟩ ⟨⟨by decide, _, rfl, zAd _ _⟩, ⟨by decide, _, rfl, zAk rfl⟩, ⟨by decide, _, rfl, zAf (zAo _) _⟩, trivial⟩ .nil⟩
    ·exact ⟨(i + 1, (touchF most l ck L[i].n L[i].now).2.2.2.1, (touchF most l ck L[i].n L[i].now).2.2.2.2, E, c2), ⟨h1, ⟨t1, t2, t3⟩, hE, hag'⟩, by show L.length - (i + 1) < L.length - i; omega, rcq [0, 1, 2] ⟨⟨_, rfl, .int _ _⟩, ⟨_, rfl, zAb 8 rfl⟩, ⟨_, rfl, .bool _⟩, ⟨_, rfl, .ptr _ _ _ rfl⟩, ⟨_, rfl, .map _ _ rfl⟩, zAc rfl (by show IntKind.i64.wrap ((i : Int) + 1) = ((i + 1 : Nat) : Int); rw [wrapN (by omega) (by omega)]; omega), trivial⟩ ⟨⟨by decide, _, rfl, zAd _ _⟩, ⟨by decide, _, rfl, zAk rfl⟩, ⟨by decide, _, rfl, zAf (zAo _) _⟩, trivial⟩ .nil⟩
   ·refine ifK (fun h => absurd (show ((touchF most l ck L[i].n L[i].now).2.2.1 != 0) = true from h) (by rw [hT]; simp)) (fun _ => ?_)
    have hgT : goodC most (touchF most l ck L[i].n L[i].now).2.2.2.1 := ⟨hg.1, t1, t2, by omega⟩
    refine Exists.intro ⟨1, 0, most, (touchF most l ck L[i].n L[i].now).2.2.2.1, (touchF most l ck L[i].n L[i].now).2.2.2.2, L[i].n, true⟩ (And.intro ⟨⟨rfl, rfl⟩, ⟨by kernel_rfl, by kernel_rfl⟩, hgT⟩ ?_)
    have hhT : hasC (touchF most l ck L[i].n L[i].now).2.2.2.1 L[i].n = true := by rw [hT]; exact zAn.2 (by show L[i].n ∈ keysC (putC l L[i].n _ _); rw [zCg hh]; exact zAn.1 hh)
    have hlT : (isortI (keysC (touchF most l ck L[i].n L[i].now).2.2.2.1)).length = (touchF most l ck L[i].n L[i].now).2.2.2.1.length := by rw [(zAe _).length_eq]; unfold keysC; rw [List.length_map]
    refine ifK (fun h => absurd (show (!hasC (touchF most l ck L[i].n L[i].now).2.2.2.1 L[i].n) = true from h) (by rw [hhT]; decide)) (fun _ => ?_)
    refine ifK (fun h => ?_) (fun _ => ?_)
    ·exfalso
     have h : decide ((((isortI (keysC (touchF most l ck L[i].n L[i].now).2.2.2.1)).length : Nat) : Int) > most) = true := h
     have h := of_decide_eq_true h
     rw [hlT] at h
     omega
    refine ifK (fun h => absurd (show (touchF most l ck L[i].n L[i].now).2.1 = true from h) (by rw [hT]; simp)) (fun _ => ?_)
    have hag' : agreeC (touchF most l ck L[i].n L[i].now).2.2.2.1 E := by
     rw [hT]
     intro a ha
     rw [zCg hh] at ha
     show getB E a = idleC (putC l L[i].n w (idleC l L[i].n)) a
     rw [zPq hh]
     split
     ·rename_i e; subst e; exact hag _ ha
     ·exact hag a ha
    have hlT2 : (touchF most l ck L[i].n L[i].now).2.2.2.1.length = l.length := by rw [hT]; exact zLh hh
    refine LW.round (zJb zMz [900006, 900007, 900005] 0 _ none mixed _ _ _ ?_)
    refine ifK (fun _ => ?_) (fun _ => ?_)
    ·refine ifK (fun h => absurd (show (touchF most l ck L[i].n L[i].now).2.1 = true from h) (by rw [hT]; simp)) (fun _ => ?_)
     refine ifK (fun _ => ?_) (fun h => absurd (show (!(touchF most l ck L[i].n L[i].now).2.1) = false from h) (by rw [hT]; simp))
     refine ifK (fun h => ?_) (fun _ => ?_)
     ·exfalso
      have h : ((((isortI (keysC (touchF most l ck L[i].n L[i].now).2.2.2.1)).length : Nat) : Int) != (((isortI (keysC l)).length : Nat) : Int)) = true := h
      rw [hlT, hlW, hlT2] at h
      simp at h
     refine ifK (fun h => absurd (show (touchF most l ck L[i].n L[i].now).2.1 = true from h) (by rw [hT]; simp)) (fun _ => ?_)
     refine ifK (fun h => absurd (show (!hasC l L[i].n) = true from h) (by rw [hh]; decide)) (fun _ => ?_)
     exact ⟨(i + 1, (touchF most l ck L[i].n L[i].now).2.2.2.1, (touchF most l ck L[i].n L[i].now).2.2.2.2, E, c2), ⟨h1, ⟨t1, t2, t3⟩, hE, hag'⟩, by show L.length - (i + 1) < L.length - i; omega, rcq [0, 1, 2] ⟨⟨_, rfl, .int _ _⟩, ⟨_, rfl, zAb 8 rfl⟩, ⟨_, rfl, .bool _⟩, ⟨_, rfl, .ptr _ _ _ rfl⟩, ⟨_, rfl, .map _ _ rfl⟩, zAc rfl (by show IntKind.i64.wrap ((i : Int) + 1) = ((i + 1 : Nat) : Int); rw [wrapN (by omega) (by omega)]; omega), trivial⟩ ⟨⟨by decide, _, rfl, zAd _ _⟩, ⟨by decide, _, rfl, zAk rfl⟩, ⟨by decide, _, rfl, zAf (zAo _) _⟩, trivial⟩ .nil⟩
    ·refine ifK (fun _ => ?_) (fun h => absurd (show (!(touchF most l ck L[i].n L[i].now).2.1) = false from h) (by rw [hT]; simp))
     refine ifK (fun h => ?_) (fun _ => ?_)
     ·exfalso
      have h : ((((isortI (keysC (touchF most l ck L[i].n L[i].now).2.2.2.1)).length : Nat) : Int) != (((isortI (keysC l)).length : Nat) : Int)) = true := h
      rw [hlT, hlW, hlT2] at h
      simp at h
     refine ifK (fun h => absurd (show (touchF most l ck L[i].n L[i].now).2.1 = true from h) (by rw [hT]; simp)) (fun _ => ?_)
     refine ifK (fun h => absurd (show (!hasC l L[i].n) = true from h) (by rw [hh]; decide)) (fun _ => ?_)
     exact ⟨(i + 1, (touchF most l ck L[i].n L[i].now).2.2.2.1, (touchF most l ck L[i].n L[i].now).2.2.2.2, E, c2), ⟨h1, ⟨t1, t2, t3⟩, hE, hag'⟩, by show L.length - (i + 1) < L.length - i; omega, rcq [0, 1, 2] ⟨⟨_, rfl, .int _ _⟩, ⟨_, rfl, zAb 8 rfl⟩, ⟨_, rfl, .bool _⟩, ⟨_, rfl, .ptr _ _ _ rfl⟩, ⟨_, rfl, .map _ _ rfl⟩, zAc rfl (by show IntKind.i64.wrap ((i : Int) + 1) = ((i + 1 : Nat) : Int); rw [wrapN (by omega) (by omega)]; omega), trivial⟩ ⟨⟨by decide, _, rfl, zAd _ _⟩, ⟨by decide, _, rfl, zAk rfl⟩, ⟨by decide, _, rfl, zAf (zAo _) _⟩, trivial⟩ .nil⟩
   ·refine ifK (fun h => absurd (show ((touchF most l ck L[i].n L[i].now).2.2.1 != 0) = true from h) (by rw [hT]; simp)) (fun _ => ?_)
    have hgT : goodC most (touchF most l ck L[i].n L[i].now).2.2.2.1 := ⟨hg.1, t1, t2, by omega⟩
    refine Exists.intro ⟨1, 0, most, (touchF most l ck L[i].n L[i].now).2.2.2.1, (touchF most l ck L[i].n L[i].now).2.2.2.2, L[i].n, true⟩ (And.intro ⟨⟨rfl, rfl⟩, ⟨by kernel_rfl, by kernel_rfl⟩, hgT⟩ ?_)
    have hhT : hasC (touchF most l ck L[i].n L[i].now).2.2.2.1 L[i].n = true := by rw [hT]; exact zAn.2 (by show L[i].n ∈ keysC (_ ++ [_]); unfold keysC; rw [List.map_append]; exact List.mem_append.2 (.inr (List.mem_singleton.2 rfl)))
    have hlT : (isortI (keysC (touchF most l ck L[i].n L[i].now).2.2.2.1)).length = (touchF most l ck L[i].n L[i].now).2.2.2.1.length := by rw [(zAe _).length_eq]; unfold keysC; rw [List.length_map]
    refine ifK (fun h => absurd (show (!hasC (touchF most l ck L[i].n L[i].now).2.2.2.1 L[i].n) = true from h) (by rw [hhT]; decide)) (fun _ => ?_)
    refine ifK (fun h => ?_) (fun _ => ?_)
    ·exfalso
     have h : decide ((((isortI (keysC (touchF most l ck L[i].n L[i].now).2.2.2.1)).length : Nat) : Int) > most) = true := h
     have h := of_decide_eq_true h
     rw [hlT] at h
     omega
    refine ifK (fun h => absurd (show (touchF most l ck L[i].n L[i].now).2.1 = true from h) (by rw [hT]; simp)) (fun _ => ?_)
    have hag' : agreeC (touchF most l ck L[i].n L[i].now).2.2.2.1 (delB E L[i].n) := by rw [hT]; exact zLw hag hh
    have hlT2 : (touchF most l ck L[i].n L[i].now).2.2.2.1.length = l.length + 1 := by rw [hT]; show (l ++ [_]).length = _; rw [List.length_append]; rfl
    refine LW.round (zJb zMz [900006, 900007, 900005] 0 _ none mixed _ _ _ ?_)
    refine ifK (fun _ => ?_) (fun _ => ?_)
    ·refine ifK (fun h => absurd (show (touchF most l ck L[i].n L[i].now).2.1 = true from h) (by rw [hT]; simp)) (fun _ => ?_)
     refine ifK (fun _ => ?_) (fun h => absurd (show (!(touchF most l ck L[i].n L[i].now).2.1) = false from h) (by rw [hT]; simp))
     refine ifK (fun _ => ?_) (fun h => absurd (show ((((isortI (keysC (touchF most l ck L[i].n L[i].now).2.2.2.1)).length : Nat) : Int) != (((isortI (keysC l)).length : Nat) : Int)) = false from h) (by rw [hlT, hlW, hlT2]; simp; omega))
     refine ifK (fun h => absurd (show hasC l L[i].n = true from h) (by rw [hh]; decide)) (fun _ => ?_)
     refine ifK (fun h => absurd (show ((((isortI (keysC (touchF most l ck L[i].n L[i].now).2.2.2.1)).length : Nat) : Int) != IntKind.i64.wrap ((((isortI (keysC l)).length : Nat) : Int) + 1)) = true from h) (by rw [hlT, hlW, hlT2, wrapN (by omega) (by omega)]; simp)) (fun _ => ?_)
     refine ifK (fun h => absurd (show (touchF most l ck L[i].n L[i].now).2.1 = true from h) (by rw [hT]; simp)) (fun _ => ?_)
     refine ifK (fun _ => ?_) (fun h => absurd (show (!hasC l L[i].n) = false from h) (by rw [hh]; decide))
     refine Exists.intro (.tuple #[]) (Exists.intro [((2 : Nat), some (AObj.map (encV (kB (delB E L[i].n))) c2))] (Exists.intro (0 : Nat) (And.intro (Eq.trans (zKs (e := 4) (l := kB E) (a := L[i].n) (ck := c2) (r := 2) rfl rfl rfl (by kernel_rfl) rfl hE) (by rw [zPt])) ?_)))
     exact ⟨(i + 1, (touchF most l ck L[i].n L[i].now).2.2.2.1, (touchF most l ck L[i].n L[i].now).2.2.2.2, delB E L[i].n, c2), ⟨h1, ⟨t1, t2, t3⟩, zCr hE _, hag'⟩, by show L.length - (i + 1) < L.length - i; omega, rcq [0, 1, 2] ⟨⟨_, rfl, .int _ _⟩, ⟨_, rfl, zAb 8 rfl⟩, ⟨_, rfl, .bool _⟩, ⟨_, rfl, .ptr _ _ _ rfl⟩, ⟨_, rfl, .map _ _ rfl⟩, zAc rfl (by show IntKind.i64.wrap ((i : Int) + 1) = ((i + 1 : Nat) : Int); rw [wrapN (by omega) (by omega)]; omega), trivial⟩ ⟨⟨by decide, _, rfl, zAd _ _⟩, ⟨by decide, _, rfl, zAk rfl⟩, ⟨by decide, _, rfl, zAf (zAo _) _⟩, trivial⟩ .nil⟩
    ·refine ifK (fun _ => ?_) (fun h => absurd (show (!(touchF most l ck L[i].n L[i].now).2.1) = false from h) (by rw [hT]; simp))
     refine ifK (fun _ => ?_) (fun h => absurd (show ((((isortI (keysC (touchF most l ck L[i].n L[i].now).2.2.2.1)).length : Nat) : Int) != (((isortI (keysC l)).length : Nat) : Int)) = false from h) (by rw [hlT, hlW, hlT2]; simp; omega))
     refine ifK (fun h => absurd (show hasC l L[i].n = true from h) (by rw [hh]; decide)) (fun _ => ?_)
     refine ifK (fun h => absurd (show ((((isortI (keysC (touchF most l ck L[i].n L[i].now).2.2.2.1)).length : Nat) : Int) != IntKind.i64.wrap ((((isortI (keysC l)).length : Nat) : Int) + 1)) = true from h) (by rw [hlT, hlW, hlT2, wrapN (by omega) (by omega)]; simp)) (fun _ => ?_)
     refine ifK (fun h => absurd (show (touchF most l ck L[i].n L[i].now).2.1 = true from h) (by rw [hT]; simp)) (fun _ => ?_)
     refine ifK (fun _ => ?_) (fun h => absurd (show (!hasC l L[i].n) = false from h) (by rw [hh]; decide))
     refine Exists.intro (.tuple #[]) (Exists.intro [((2 : Nat), some (AObj.map (encV (kB (delB E L[i].n))) c2))] (Exists.intro (0 : Nat) (And.intro (Eq.trans (zKs (e := 4) (l := kB E) (a := L[i].n) (ck := c2) (r := 2) rfl rfl rfl (by kernel_rfl) rfl hE) (by rw [zPt])) ?_)))
     exact ⟨(i + 1, (touchF most l ck L[i].n L[i].now).2.2.2.1, (touchF most l ck L[i].n L[i].now).2.2.2.2, delB E L[i].n, c2), ⟨h1, ⟨t1, t2, t3⟩, zCr hE _, hag'⟩, by show L.length - (i + 1) < L.length - i; omega, rcq [0, 1, 2] ⟨⟨_, rfl, .int _ _⟩, ⟨_, rfl, zAb 8 rfl⟩, ⟨_, rfl, .bool _⟩, ⟨_, rfl, .ptr _ _ _ rfl⟩, ⟨_, rfl, .map _ _ rfl⟩, zAc rfl (by show IntKind.i64.wrap ((i : Int) + 1) = ((i + 1 : Nat) : Int); rw [wrapN (by omega) (by omega)]; omega), trivial⟩ ⟨⟨by decide, _, rfl, zAd _ _⟩, ⟨by decide, _, rfl, zAk rfl⟩, ⟨by decide, _, rfl, zAf (zAo _) _⟩, trivial⟩ .nil⟩
   ·refine ifK (fun h => absurd (show ((touchF most l ck L[i].n L[i].now).2.2.1 != 0) = true from h) (by rw [hT]; simp)) (fun _ => ?_)
    have hgT : goodC most (touchF most l ck L[i].n L[i].now).2.2.2.1 := ⟨hg.1, t1, t2, by omega⟩
    have hok := (zOa hm).1
    have hoi := (zOa hm).2
    have hno : L[i].n ∉ keysC l := fun hk => by rw [zAn.2 hk] at hh; cases hh
    have hne : minF l (mayC l) ≠ L[i].n := fun e => hno (e ▸ hok)
    refine Exists.intro ⟨1, 0, most, (touchF most l ck L[i].n L[i].now).2.2.2.1, (touchF most l ck L[i].n L[i].now).2.2.2.2, L[i].n, true⟩ (And.intro ⟨⟨rfl, rfl⟩, ⟨by kernel_rfl, by kernel_rfl⟩, hgT⟩ ?_)
    have hhT : hasC (touchF most l ck L[i].n L[i].now).2.2.2.1 L[i].n = true := by rw [hT]; exact zAn.2 (by show L[i].n ∈ keysC (_ ++ [_]); unfold keysC; rw [List.map_append]; exact List.mem_append.2 (.inr (List.mem_singleton.2 rfl)))
    have hlT : (isortI (keysC (touchF most l ck L[i].n L[i].now).2.2.2.1)).length = (touchF most l ck L[i].n L[i].now).2.2.2.1.length := by rw [(zAe _).length_eq]; unfold keysC; rw [List.length_map]
    refine ifK (fun h => absurd (show (!hasC (touchF most l ck L[i].n L[i].now).2.2.2.1 L[i].n) = true from h) (by rw [hhT]; decide)) (fun _ => ?_)
    refine ifK (fun h => ?_) (fun _ => ?_)
    ·exfalso
     have h : decide ((((isortI (keysC (touchF most l ck L[i].n L[i].now).2.2.2.1)).length : Nat) : Int) > most) = true := h
     have h := of_decide_eq_true h
     rw [hlT] at h
     omega
    refine ifK (fun _ => ?_) (fun h => absurd (show (touchF most l ck L[i].n L[i].now).2.1 = false from h) (by rw [hT]; simp))
    have ho1 : (touchF most l ck L[i].n L[i].now).1 = minF l (mayC l) := by rw [hT]
    have hob : getB E (touchF most l ck L[i].n L[i].now).1 = true := by rw [ho1, hag _ hok, hoi]
    have hon : hasC (touchF most l ck L[i].n L[i].now).2.2.2.1 (touchF most l ck L[i].n L[i].now).1 = false := by
     rw [ho1, hT]
     exact goes_has hne
    refine ifK (fun h => absurd (show hasC l L[i].n = true from h) (by rw [hh]; decide)) (fun _ => ?_)
    refine ifK (fun h => ?_) (fun _ => ?_)
    ·exfalso
     have h : decide (((isortI (keysC l)).length : Int) < most) = true := h
     rw [hlW] at h
     have := of_decide_eq_true h
     omega
    refine Exists.intro (.bool (getB E (touchF most l ck L[i].n L[i].now).1)) (Exists.intro [] (Exists.intro 0 (And.intro (Eq.trans (zHw (e := 4) (l := kB E) (a := (touchF most l ck L[i].n L[i].now).1) (ck := c2) (r := 2) (ok := false) rfl rfl rfl (by kernel_rfl) zJg rfl rfl hE) (by rw [zLv]; rfl)) ?_)))
    refine ifK (fun h => absurd (show (!getB E (touchF most l ck L[i].n L[i].now).1) = true from h) (by rw [hob]; decide)) (fun _ => ?_)
    refine Exists.intro ⟨1, 0, most, (touchF most l ck L[i].n L[i].now).2.2.2.1, (touchF most l ck L[i].n L[i].now).2.2.2.2, (touchF most l ck L[i].n L[i].now).1, true⟩ (And.intro ⟨⟨rfl, rfl⟩, ⟨by kernel_rfl, by kernel_rfl⟩, hgT⟩ ?_)
    refine ifK (fun h => absurd (show hasC (touchF most l ck L[i].n L[i].now).2.2.2.1 (touchF most l ck L[i].n L[i].now).1 = true from h) (by rw [hon]; decide)) (fun _ => ?_)
    have hoW : minF l (mayC l) ∈ isortI (keysC l) := (zAe _).mem_iff.2 hok
    have hag' : agreeC (touchF most l ck L[i].n L[i].now).2.2.2.1 (delB (delB E (touchF most l ck L[i].n L[i].now).1) L[i].n) := by
     rw [ho1, hT]
     exact zLw (agree_del hag) (has_del hh)
    refine goes_in ⟨most, L, l, E, c2, (touchF most l ck L[i].n L[i].now).2.2.2.1, (touchF most l ck L[i].n L[i].now).2.2.2.2, i, L[i], hasC l L[i].n, (touchF most l ck L[i].n L[i].now).1, (touchF most l ck L[i].n L[i].now).2.1, isortI (keysC l), (isortI (keysC l)).length, isortI (keysC (touchF most l ck L[i].n L[i].now).2.2.2.1)⟩ ⟨by show (isortI (keysC l)).length ≤ _; rw [hlW]; omega, hE, (by show (keysV (kI (whenL l (isortI (keysC l))))).Nodup; rw [keys_kI]; unfold whenL; rw [List.map_map]; exact (show (List.map (fun a : Int => a) (isortI (keysC l))).Nodup by rw [List.map_id']; exact hnW)), (by show (touchF most l ck L[i].n L[i].now).2.1 = true; rw [hT]), hgT, by show (touchF most l ck L[i].n L[i].now).1 ∈ _; rw [ho1]; exact hoW⟩ ?_ ?_
     (rcq [0, 1, 2, 3, 5] ⟨⟨_, rfl, .int _ _⟩, ⟨_, rfl, zAb 8 rfl⟩, ⟨_, rfl, .bool _⟩, ⟨_, rfl, .ptr _ _ _ rfl⟩, ⟨_, rfl, .map _ _ rfl⟩, ⟨_, rfl, .int _ _⟩, ⟨_, rfl, .ptr _ _ _ rfl⟩, ⟨_, rfl, zAb 8 rfl⟩, ⟨_, rfl, .map _ _ rfl⟩, ⟨_, rfl, .bool _⟩, ⟨_, rfl, .int _ _⟩, ⟨_, rfl, .bool _⟩, ⟨_, rfl, zAb 8 rfl⟩, ⟨_, rfl, .int _ _⟩, trivial⟩ ⟨⟨by decide, _, rfl, zAd _ _⟩, ⟨by decide, _, rfl, zAk rfl⟩, ⟨by decide, _, rfl, zAf (zAo _) _⟩, bpo rfl, ⟨by decide, _, rfl, zAf (zBy _) _⟩, trivial⟩ .nil) (fun f => ?_)
    ·intro a ha hb
     have ha : a ∈ keysC l := (zAe _).mem_iff.1 ha
     show whenC l (touchF most l ck L[i].n L[i].now).1 ≤ whenC l a
     rw [ho1]
     exact minF_le (zNz.2 ⟨ha, by rw [← hag a ha]; exact hb⟩)
    ·intro a ha hne2
     have ha : a ∈ keysC l := (zAe _).mem_iff.1 ha
     have hne2 : a ≠ (touchF most l ck L[i].n L[i].now).1 := hne2
     rw [ho1] at hne2
     show hasC (touchF most l ck L[i].n L[i].now).2.2.2.1 a = true
     rw [hT]
     exact goes_keep ha hne2
    refine ifK (fun h => absurd (show (!(touchF most l ck L[i].n L[i].now).2.1) = true from h) (by rw [hT]; simp)) (fun _ => ?_)
    refine ifK (fun _ => ?_) (fun h => absurd (show (touchF most l ck L[i].n L[i].now).2.1 = false from h) (by rw [hT]; simp))
    refine Exists.intro (.tuple #[]) (Exists.intro [((2 : Nat), some (AObj.map (encV (kB (delB E (touchF most l ck L[i].n L[i].now).1))) c2))] (Exists.intro (0 : Nat) (And.intro (Eq.trans (zKs (e := 4) (l := kB E) (a := (touchF most l ck L[i].n L[i].now).1) (ck := c2) (r := 2) rfl rfl rfl (by kernel_rfl) rfl hE) (by rw [zPt])) ?_)))
    refine ifK (fun _ => ?_) (fun h => absurd (show (!hasC l L[i].n) = false from h) (by rw [hh]; decide))
    refine Exists.intro (.tuple #[]) (Exists.intro [((2 : Nat), some (AObj.map (encV (kB (delB (delB E (touchF most l ck L[i].n L[i].now).1) L[i].n))) c2))] (Exists.intro (0 : Nat) (And.intro (Eq.trans (zKs (e := 4) (l := kB (delB E (touchF most l ck L[i].n L[i].now).1)) (a := L[i].n) (ck := c2) (r := 2) rfl rfl rfl (by kernel_rfl) rfl (zCr hE _)) (by rw [zPt])) ?_)))
    exact ⟨(i + 1, (touchF most l ck L[i].n L[i].now).2.2.2.1, (touchF most l ck L[i].n L[i].now).2.2.2.2, delB (delB E (touchF most l ck L[i].n L[i].now).1) L[i].n, c2), ⟨h1, ⟨t1, t2, t3⟩, zCr (zCr hE _) _, hag'⟩, by show L.length - (i + 1) < L.length - i; omega, rcq [0, 1, 2] ⟨⟨_, rfl, .int _ _⟩, ⟨_, rfl, zAb 8 rfl⟩, ⟨_, rfl, .bool _⟩, ⟨_, rfl, .ptr _ _ _ rfl⟩, ⟨_, rfl, .map _ _ rfl⟩, zAc rfl (by show IntKind.i64.wrap ((i : Int) + 1) = ((i + 1 : Nat) : Int); rw [wrapN (by omega) (by omega)]; omega), trivial⟩ ⟨⟨by decide, _, rfl, zAd _ _⟩, ⟨by decide, _, rfl, zAk rfl⟩, ⟨by decide, _, rfl, zAf (zAo _) _⟩, trivial⟩ .nil⟩
 ·exact And.intro rfl (zDx (rcq [] (d := 8) (d2 := 0) (lv := [(5, .bool true)]) (bs := []) (W := []) (m := 0) (df := []) ⟨⟨_, rfl, .bool _⟩, trivial⟩ trivial .nil) (fun f => ⟨_, _, _, rfl⟩))
end Go.Proofs.Ytpdeidlkeplegaa
