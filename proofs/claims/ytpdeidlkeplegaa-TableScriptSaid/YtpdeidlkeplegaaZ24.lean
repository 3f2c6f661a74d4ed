/- DERIVED. Texts put together: Tq18, Ts7, Ts9, Ts10, Ts11, Ts12, Ts13. -/
import Derived.Test.YtpdeidlkeplegaaZ13
import Derived.Test.YtpdeidlkeplegaaZ15
import Derived.Test.YtpdeidlkeplegaaZ23
set_option maxRecDepth 1000000
set_option maxHeartbeats 32000000
namespace Go.Proofs.Ytpdeidlkeplegaa
open Go Go.RowKit
noncomputable def inl_len20 : Ct Try.prog 0 := Ct.inl (tbOf mixed [zFd]) mixed [] 13 Try.f13 Try.func13 (bodyOf Try.f13) (by kernel_rfl)
noncomputable def inl_new20 : Ct Try.prog 0 := Ct.inl (tbOf mixed []) mixed [] 10 Try.f10 Try.func10 (bodyOf Try.f10) (by kernel_rfl)
theorem zKv {l l' : List CliX} (h : rangeC l) (e : keysC l' = keysC l) : rangeC l' := fun c hc => by
 have h1 : c.n ∈ keysC l := e ▸ List.mem_map_of_mem hc
 obtain ⟨d, hd, hde⟩ := List.mem_map.1 h1
 exact hde ▸ h d hd
theorem zMe {l : List CliX} {a w : Int} {b : Bool} (h : hasC l a = true) : (putC l a w b).length = l.length := by unfold putC; rw [if_pos h, List.length_map]
theorem zSv (most : Int) (l : List CliX) (ck : Nat) (n now : Int) {G : Prop}
  (h1 : ∀ e : Int, e ≠ 0 → touchF most l ck n now = (0, false, e, l, ck) → (e = 8 → most ≤ (l.length : Int) ∧ (mayC l).length = 0) → G)
  (h2 : hasC l n = true → ∀ w, touchF most l ck n now = (0, false, 0, putC l n w (idleC l n), ck) → G)
  (h3 : hasC l n = false → (l.length : Int) < most → touchF most l ck n now = (0, false, 0, l ++ [⟨n, now, false⟩], ck + 1) → G)
  (h4 : hasC l n = false → most ≤ (l.length : Int) → (mayC l).length ≠ 0 → touchF most l ck n now = (minF l (mayC l), true, 0, delC l (minF l (mayC l)) ++ [⟨n, now, false⟩], ck + 1) → G) : G := by
 by_cases a1 : (decide (now < 0) || decide (now > 1099511627776)) = true
 ·exact h1 2 (by decide) (by unfold touchF; rw [if_pos a1]) (fun h => absurd h (by decide))
 by_cases a2 : hasC l n = true
 ·exact h2 a2 _ (by unfold touchF; rw [if_neg a1, if_pos a2])
 have a2' : hasC l n = false := by simpa using a2
 by_cases a3 : decide ((l.length : Int) < most) = true
 ·exact h3 a2' (of_decide_eq_true a3) (by unfold touchF; rw [if_neg a1, if_neg a2, if_pos a3])
 have a3' : most ≤ (l.length : Int) := by have : ¬ (l.length : Int) < most := fun h => a3 (decide_eq_true h); omega
 by_cases a4 : (mayC l).length = 0
 ·exact h1 8 (by decide) (by unfold touchF; rw [if_neg a1, if_neg a2, if_neg a3, if_pos a4]) (fun _ => ⟨a3', a4⟩)
 ·exact h4 a2' a3' a4 (by unfold touchF; rw [if_neg a1, if_neg a2, if_neg a3, if_neg a4])
theorem zMg {l : List CliX} {a : Int} : a ∈ mayC l ↔ a ∈ keysC l ∧ idleC l a = true := by
 unfold mayC delF
 rw [List.mem_filter, (zAb _).mem_iff]
theorem min_key {l : List CliX} (h : (mayC l).length ≠ 0) : minF l (mayC l) ∈ keysC l ∧ idleC l (minF l (mayC l)) = true := zMg.1 (zMh h)
theorem len_del {l : List CliX} {a : Int} (hn : (keysC l).Nodup) (h : a ∈ keysC l) : (delC l a).length + 1 = l.length := by
 obtain ⟨A, c, B, rfl, rfl⟩ := splitC h
 rw [zLt hn, List.length_append, List.length_append, List.length_cons]; omega
theorem zLe {most : Int} {l : List CliX} {ck : Nat} {n now : Int} (hm : 1 ≤ most) (hn : (keysC l).Nodup) (hr : rangeC l) (hl : (l.length : Int) ≤ most) (hnr : -9223372036854775808 ≤ n ∧ n ≤ 9223372036854775807) :
  (keysC (touchF most l ck n now).2.2.2.1).Nodup ∧ rangeC (touchF most l ck n now).2.2.2.1 ∧ ((touchF most l ck n now).2.2.2.1.length : Int) ≤ most := by
 have happ : ∀ {l' : List CliX}, (keysC l').Nodup → n ∉ keysC l' → (keysC (l' ++ [⟨n, now, false⟩])).Nodup := fun h1 h2 => by
  unfold keysC at h1 h2 ⊢
  rw [List.map_append, List.nodup_append]
  exact ⟨h1, by simp, fun a ha c hc => by simp at hc; subst hc; exact fun e => h2 (e ▸ ha)⟩
 have hrap : ∀ {l' : List CliX}, rangeC l' → rangeC (l' ++ [⟨n, now, false⟩]) := fun h c hc => by
  rcases List.mem_append.1 hc with hc | hc
  ·exact h c hc
  ·rw [List.mem_singleton.1 hc]; exact hnr
 have hno : hasC l n = false → n ∉ keysC l := fun h hk => by rw [zBd.2 hk] at h; cases h
 refine zSv most l ck n now (fun e _ hT _ => ?_) (fun hh w hT => ?_) (fun hh hlt hT => ?_) (fun hh hge hmm hT => ?_)
 ·rw [hT]; exact ⟨hn, hr, hl⟩
 ·rw [hT]; exact ⟨by show (keysC (putC l n w _)).Nodup; rw [zGg hh]; exact hn, zKv hr (zGg hh), by show ((putC l n w _).length : Int) ≤ _; rw [zMe hh]; exact hl⟩
 ·rw [hT]; exact ⟨happ hn (hno hh), hrap hr, by show ((l ++ [_]).length : Int) ≤ _; rw [List.length_append]; simp only [List.length_singleton]; omega⟩
 ·rw [hT]
  have hk := (min_key hmm).1
  have hd := len_del hn hk
  have hsub : ∀ c ∈ delC l (minF l (mayC l)), c ∈ l := fun c hc => (List.mem_filter.1 hc).1
  refine ⟨happ (hn.sublist (List.Sublist.map _ (List.filter_sublist ..))) (fun h => hno hh ?_), hrap (fun c hc => hr c (hsub c hc)), ?_⟩
  ·obtain ⟨c, hc, e⟩ := List.mem_map.1 h
   exact e ▸ List.mem_map_of_mem (hsub c hc)
  ·show ((delC l (minF l (mayC l)) ++ [_]).length : Int) ≤ _
   rw [List.length_append]; simp only [List.length_singleton]; omega
end Go.Proofs.Ytpdeidlkeplegaa
namespace Go.Proofs.Ytpdeidlkeplegaa
open Go Go.RowKit
theorem zKm {l : List CliX} {x m : Int} : before l x m = true ↔ whenC l x < whenC l m ∨ (whenC l x = whenC l m ∧ x < m) := by
 unfold before cmpI
 by_cases h1 : whenC l x < whenC l m
 ·rw [decide_eq_true h1]; simp [h1]
 ·rw [decide_eq_false h1]
  by_cases h2 : whenC l x > whenC l m
  ·rw [decide_eq_true h2]
   constructor
   ·intro h; simp at h
   ·intro h; omega
  ·rw [decide_eq_false h2]
   have h3 : whenC l x = whenC l m := by omega
   by_cases h4 : x < m
   ·rw [decide_eq_true h4]; simp [h3, h4]
   ·rw [decide_eq_false h4]
    by_cases h5 : x > m
    ·rw [decide_eq_true h5]; simp [h3, h4]
    ·rw [decide_eq_false h5]; simp [h3, h4]
theorem zBv {l : List CliX} {x m : Int} : before l x m = false ↔ ¬ (whenC l x < whenC l m ∨ (whenC l x = whenC l m ∧ x < m)) := by
 rw [← zKm, Bool.not_eq_true]
theorem fold_no {l : List CliX} : ∀ (L : List Int) (m : Int), ∀ y ∈ m :: L, before l y (L.foldl (fun m x => bif before l x m then x else m) m) = false
 | [], m, y, hy => by rw [List.mem_singleton.1 hy]; show before l m m = false; exact zBv.2 (by omega)
 | z :: L, m, y, hy => by
  show before l y (L.foldl _ (bif before l z m then z else m)) = false
  have ih := fold_no (l := l) L (bif before l z m then z else m)
  generalize L.foldl (fun m x => bif before l x m then x else m) (bif before l z m then z else m) = r at ih ⊢
  have h0 := ih _ (List.mem_cons_self ..)
  simp only [List.mem_cons] at hy
  rcases hy with e | e | e
  ·subst e
   cases hb : before l z y with
   | true => rw [hb] at h0; have h0 := zBv.1 h0; have hb := zKm.1 hb; exact zBv.2 (by show ¬ _; intro h; simp only [cond_true] at h0; omega)
   | false => rw [hb] at h0; exact h0
  ·subst e
   cases hb : before l y m with
   | true => rw [hb] at h0; exact h0
   | false => rw [hb] at h0; have h0 := zBv.1 h0; have hb := zBv.1 hb; exact zBv.2 (by intro h; simp only [cond_false] at h0; omega)
  ·exact ih y (List.mem_cons_of_mem _ e)
theorem minF_no {l : List CliX} {L : List Int} {y : Int} (h : y ∈ L) : before l y (minF l L) = false := by
 cases L with
 | nil => cases h
 | cons x L => exact fold_no L x y h
theorem minF_eq {l : List CliX} {L : List Int} {m : Int} (hm : m ∈ L) (h : ∀ y ∈ L, before l y m = false) : minF l L = m := by
 have h0 : L.length ≠ 0 := fun e => by rw [List.length_eq_zero_iff.1 e] at hm; cases hm
 have h1 := zBv.1 (minF_no (l := l) hm)
 have h2 := zBv.1 (h _ (zMh (l := l) h0))
 omega
def agreeD (D l : List CliX) : Prop := (keysC D).Pairwise (· < ·) ∧ D.Perm l
theorem zBs {L : List Int} (h : L.Pairwise (· < ·)) : L.Nodup := h.imp fun {a b} h => by omega
theorem zQn {l : List CliX} {a : Int} {c : CliX} (hn : (keysC l).Nodup) : getC l a = some c ↔ c ∈ l ∧ c.n = a := by
 constructor
 ·intro h
  exact ⟨List.mem_of_find?_eq_some h, by simpa using List.find?_some h⟩
 ·rintro ⟨h1, h2⟩
  obtain ⟨k, hk, rfl⟩ := List.getElem_of_mem h1
  exact (zCk hn hk h2).1
theorem agreeD.nodup {D l : List CliX} (h : agreeD D l) : (keysC l).Nodup := (h.2.map CliX.n).nodup_iff.1 (zBs h.1)
theorem agreeD.get {D l : List CliX} (h : agreeD D l) (a : Int) : getC D a = getC l a := by
 refine Option.ext fun c => ?_
 rw [zQn (zBs h.1), zQn h.nodup, h.2.mem_iff]
theorem agreeD.has {D l : List CliX} (h : agreeD D l) (a : Int) : hasC D a = hasC l a := by unfold hasC; rw [h.get]
theorem agreeD.whenC {D l : List CliX} (h : agreeD D l) (a : Int) : whenC D a = whenC l a := by unfold Proofs.Ytpdeidlkeplegaa.whenC; rw [h.get]
theorem agreeD.idle {D l : List CliX} (h : agreeD D l) (a : Int) : idleC D a = idleC l a := by unfold idleC; rw [h.get]
theorem agreeD.keys {D l : List CliX} (h : agreeD D l) : keysC D = isortI (keysC l) := by
 refine List.Perm.eq_of_pairwise (le := fun a b : Int => a ≤ b) (fun a b _ _ h1 h2 => by omega) (h.1.imp fun {a b} h => by omega) (zDr _) ((h.2.map CliX.n).trans (zAb _).symm)
theorem agreeD.put {D l : List CliX} (h : agreeD D l) {a w : Int} {b : Bool} (hh : hasC l a = true) : agreeD (putC D a w b) (putC l a w b) := by
 have hD : hasC D a = true := (h.has a).trans hh
 refine ⟨by rw [zGg hD]; exact h.1, ?_⟩
 unfold putC
 rw [if_pos hD, if_pos hh]
 exact h.2.map _
theorem zNi {x c : CliX} {D : List CliX} : insD (x :: D) c = if x.n < c.n then x :: insD D c else c :: x :: D := by
 unfold insD
 by_cases h : x.n < c.n
 ·rw [if_pos h, List.takeWhile_cons_of_pos (by simpa using h), List.dropWhile_cons_of_pos (by simpa using h)]; rfl
 ·rw [if_neg h, List.takeWhile_cons_of_neg (by simpa using h), List.dropWhile_cons_of_neg (by simpa using h)]; rfl
theorem zJa (c : CliX) : ∀ D, (insD D c).Perm (c :: D)
 | [] => .refl _
 | x :: D => by
  rw [zNi]
  split
  ·exact ((zJa c D).cons x).trans (.swap ..)
  ·exact .refl _
theorem zNj {c : CliX} : ∀ {D : List CliX}, (keysC D).Pairwise (· < ·) → c.n ∉ keysC D → (keysC (insD D c)).Pairwise (· < ·)
 | [], _, _ => by simp [insD, keysC]
 | x :: D, h, hc => by
  have h : (x.n :: keysC D).Pairwise (· < ·) := h
  have hc : c.n ∉ x.n :: keysC D := hc
  rw [List.pairwise_cons] at h
  simp only [List.mem_cons, not_or] at hc
  rw [zNi]
  split
  ·rename_i hx
   show (x.n :: keysC (insD D c)).Pairwise (· < ·)
   rw [List.pairwise_cons]
   refine ⟨fun a ha => ?_, zNj h.2 hc.2⟩
   have := ((zJa c D).map CliX.n).mem_iff.1 ha
   rcases List.mem_cons.1 this with e | e
   ·rw [e]; exact hx
   ·exact h.1 a e
  ·rename_i hx
   show (c.n :: x.n :: keysC D).Pairwise (· < ·)
   rw [List.pairwise_cons, List.pairwise_cons]
   refine ⟨fun a ha => ?_, h⟩
   rcases List.mem_cons.1 ha with e | e
   ·rw [e]; omega
   ·have := h.1 a e; omega
theorem agreeD.ins {D l : List CliX} (h : agreeD D l) {c : CliX} (hc : hasC l c.n = false) : agreeD (insD D c) (l ++ [c]) := by
 refine ⟨zNj h.1 (fun hk => ?_), (zJa c D).trans ((h.2.cons c).trans (List.perm_append_comm (l₁ := [c])))⟩
 rw [← h.has, zBd.2 hk] at hc
 cases hc
theorem erase_del {D : List CliX} (hn : (keysC D).Nodup) {k : Nat} (h : k < D.length) : D.eraseIdx k = delC D D[k].n := by
 obtain ⟨A, c, B, rfl, rfl⟩ : ∃ A c B, D = A ++ c :: B ∧ A.length = k := ⟨D.take k, D[k], D.drop (k + 1), by rw [← List.drop_eq_getElem_cons h, List.take_append_drop], by rw [List.length_take]; omega⟩
 have e2 : (A ++ c :: B)[A.length]'h = c := by simp
 rw [e2, zLt hn, List.eraseIdx_append_of_length_le (Nat.le_refl _), Nat.sub_self]; rfl
theorem agreeD.erase {D l : List CliX} (h : agreeD D l) {k : Nat} (hk : k < D.length) : agreeD (D.eraseIdx k) (delC l D[k].n) := by
 refine ⟨?_, ?_⟩
 ·exact h.1.sublist (List.Sublist.map _ (List.eraseIdx_sublist ..))
 ·rw [erase_del (zBs h.1) hk]
  exact h.2.filter _
theorem zJk (D : List CliX) : ∀ k, k ≤ D.length → (outN D k = -1 ∧ ∀ j (hj : j < D.length), j < k → D[j].i = false) ∨ ∃ m, ∃ hm : m < D.length, m < k ∧ outN D k = (m : Int) ∧ D[m].i = true ∧ ∀ j (hj : j < D.length), j < k → D[j].i = true → D[m].w < D[j].w ∨ (D[m].w = D[j].w ∧ m ≤ j)
 | 0, _ => .inl ⟨rfl, fun j _ h => absurd h (by omega)⟩
 | k + 1, hk => by
  have hkl : k < D.length := hk
  have hc : cliD D k = D[k] := zGx hkl
  rcases zJk D k (by omega) with ⟨h1, h2⟩ | ⟨m, hm, hmk, h1, h2, h3⟩
  ·cases hi : D[k].i with
   | true =>
    refine .inr ⟨k, hkl, by omega, ?_, hi, fun j hj hjk hji => ?_⟩
    ·rw [outN, hc, hi, h1]; rfl
    ·rcases Nat.lt_succ_iff_lt_or_eq.1 hjk with h | h
     ·rw [h2 j hj h] at hji; cases hji
     ·subst h; exact .inr ⟨rfl, Nat.le_refl _⟩
   | false =>
    refine .inl ⟨?_, fun j hj hjk => ?_⟩
    ·rw [outN, hc, hi, h1]; rfl
    ·rcases Nat.lt_succ_iff_lt_or_eq.1 hjk with h | h
     ·exact h2 j hj h
     ·subst h; exact hi
  ·have hcm : cliD D (outN D k) = D[m] := by rw [h1]; exact zGx hm
   have h0 : decide (outN D k < 0) = false := by rw [h1]; exact decide_eq_false (by omega)
   cases hi : D[k].i with
   | false =>
    refine .inr ⟨m, hm, by omega, ?_, h2, fun j hj hjk hji => ?_⟩
    ·rw [outN, hc, hi]; exact h1
    ·rcases Nat.lt_succ_iff_lt_or_eq.1 hjk with h | h
     ·exact h3 j hj h hji
     ·subst h; rw [hi] at hji; cases hji
   | true =>
    by_cases hw : D[k].w < D[m].w
    ·refine .inr ⟨k, hkl, by omega, ?_, hi, fun j hj hjk hji => ?_⟩
     ·rw [outN, hc, hi, hcm, h0, decide_eq_true hw]; rfl
     ·rcases Nat.lt_succ_iff_lt_or_eq.1 hjk with h | h
      ·have := h3 j hj h hji; omega
      ·subst h; exact .inr ⟨rfl, Nat.le_refl _⟩
    ·refine .inr ⟨m, hm, by omega, ?_, h2, fun j hj hjk hji => ?_⟩
     ·rw [outN, hc, hi, hcm, h0, decide_eq_false hw]; exact h1
     ·rcases Nat.lt_succ_iff_lt_or_eq.1 hjk with h | h
      ·exact h3 j hj h hji
      ·subst h; omega
theorem sort_lt {D : List CliX} (h : (keysC D).Pairwise (· < ·)) {i j : Nat} (hi : i < D.length) (hj : j < D.length) (hij : i < j) : D[i].n < D[j].n := by
 have := List.pairwise_iff_getElem.1 h i j (by unfold keysC; rwa [List.length_map]) (by unfold keysC; rwa [List.length_map]) hij
 unfold keysC at this
 rwa [List.getElem_map, List.getElem_map] at this
theorem out_no {D l : List CliX} (h : agreeD D l) (ho : outN D D.length < 0) : (mayC l).length = 0 := by
 rcases zJk D D.length (Nat.le_refl _) with ⟨_, h2⟩ | ⟨m, _, _, h1, _⟩
 ·rw [List.length_eq_zero_iff]
  refine List.eq_nil_iff_forall_not_mem.2 fun a ha => ?_
  obtain ⟨ha, hi⟩ := zMg.1 ha
  rw [← h.idle] at hi
  have ha : hasC D a = true := (h.has a).trans (zBd.2 ha)
  rcases zEt D a with ⟨_, q⟩ | ⟨k, hk, _, q, _⟩
  ·rw [q] at ha; cases ha
  ·unfold idleC at hi
   rw [(zCk (zBs h.1) hk q).1] at hi
   have hi : D[k].i = true := hi
   rw [h2 k hk hk] at hi; cases hi
 ·rw [h1] at ho; omega
theorem out_yes {D l : List CliX} (h : agreeD D l) (ho : ¬ outN D D.length < 0) : ∃ k, ∃ hk : k < D.length, outN D D.length = (k : Int) ∧ (mayC l).length ≠ 0 ∧ minF l (mayC l) = D[k].n := by
 rcases zJk D D.length (Nat.le_refl _) with ⟨q, _⟩ | ⟨m, hm, _, h1, h2, h3⟩
 ·rw [q] at ho; exact absurd (by decide) ho
 have hn := zBs h.1
 have hmm : D[m].n ∈ mayC l := by
  refine zMg.2 ⟨zBd.1 ((h.has _).symm.trans (zBd.2 (List.mem_map_of_mem (List.getElem_mem hm)))), ?_⟩
  rw [← h.idle]
  unfold idleC
  rw [(zCk hn hm rfl).1]; exact h2
 refine ⟨m, hm, h1, fun e => (by rw [List.length_eq_zero_iff.1 e] at hmm; cases hmm), minF_eq hmm fun y hy => ?_⟩
 obtain ⟨hy, hi⟩ := zMg.1 hy
 rw [← h.idle] at hi
 have hy : hasC D y = true := (h.has y).trans (zBd.2 hy)
 rcases zEt D y with ⟨_, q⟩ | ⟨k, hk, _, q, _⟩
 ·rw [q] at hy; cases hy
 ·have hg := (zCk hn hk q).1
  unfold idleC at hi
  rw [hg] at hi
  have := h3 k hk hk hi
  refine zBv.2 ?_
  rw [← h.whenC, ← h.whenC]
  have e1 : Proofs.Ytpdeidlkeplegaa.whenC D y = D[k].w := by unfold Proofs.Ytpdeidlkeplegaa.whenC; rw [hg]; rfl
  have e2 : Proofs.Ytpdeidlkeplegaa.whenC D D[m].n = D[m].w := by unfold Proofs.Ytpdeidlkeplegaa.whenC; rw [(zCk hn hm rfl).1]; rfl
  rw [e1, e2, ← q]
  by_cases hmk : m < k
  ·have := sort_lt h.1 hm hk hmk; omega
  ·by_cases hkm : k < m
   ·omega
   ·have : k = m := by omega
    subst this; omega
theorem agreeD.touch {D l : List CliX} (h : agreeD D l) (most : Int) (ck : Nat) (n now : Int) :
  (dtF most D n now).1 = ((touchF most l ck n now).1, (touchF most l ck n now).2.1, (touchF most l ck n now).2.2.1) ∧ agreeD (dtF most D n now).2.1 (touchF most l ck n now).2.2.2.1 := by
 unfold dtF touchF
 split
 ·exact ⟨rfl, h⟩
 rw [h.has]
 split
 ·rename_i hh
  refine ⟨rfl, ?_⟩
  show agreeD (putC D _ _ _) (putC l _ _ _)
  rw [h.whenC, h.idle]
  exact h.put hh
 rename_i hh
 have hh : hasC l n = false := by simpa using hh
 rw [h.2.length_eq]
 split
 ·exact ⟨rfl, h.ins (c := ⟨n, now, false⟩) hh⟩
 rw [← h.2.length_eq]
 by_cases ho : outN D D.length < 0
 ·rw [decide_eq_true ho, if_pos rfl, if_pos (out_no h ho)]
  exact ⟨rfl, h⟩
 ·obtain ⟨k, hk, e1, e2, e3⟩ := out_yes h ho
  rw [decide_eq_false ho, if_neg (by decide), if_neg e2, e3, e1]
  have hc : cliD D (k : Int) = D[k] := zGx hk
  refine ⟨by rw [hc], ?_⟩
  show agreeD (insD (D.eraseIdx (k : Int).toNat) _) (delC l D[k].n ++ _)
  rw [Int.toNat_natCast]
  refine (h.erase hk).ins (c := ⟨n, now, false⟩) ?_
  cases hb : hasC (delC l D[k].n) n
  ·rfl
  ·obtain ⟨c, hc, e⟩ := List.mem_map.1 (zBd.1 hb)
   rw [zBd.2 (e ▸ List.mem_map_of_mem (List.mem_filter.1 hc).1)] at hh
   cases hh
theorem agreeD.idleF {D l : List CliX} (h : agreeD D l) (n : Int) (b : Bool) : (idleF D n b).1 = (idleF l n b).1 ∧ agreeD (idleF D n b).2 (idleF l n b).2 := by
 unfold Proofs.Ytpdeidlkeplegaa.idleF
 rw [h.has]
 split
 ·rename_i hh
  refine ⟨rfl, ?_⟩
  show agreeD (putC D _ _ _) (putC l _ _ _)
  rw [h.whenC]
  exact h.put hh
 ·exact ⟨rfl, h⟩
end Go.Proofs.Ytpdeidlkeplegaa
namespace Go.Proofs.Ytpdeidlkeplegaa
open Go Go.RowKit
noncomputable def inl_newD : Ct Try.prog 0 := Ct.inl (tbOf mixed []) mixed [] 14 Try.f14 Try.func14 (bodyOf Try.f14) (by kernel_rfl)
noncomputable def tbTs9 : Tb Try.prog 0 := tbOf mixed [Ct.yes 8 zLo, ct_pick, inl_new20, inl_newD, ct_touch, ct_idle, ct_dtouch, ct_didle, ct_when, ct_dat, inl_len20, inl_has20, zNh, ct_dall, ct_sameIx]
structure SiX where
 most : Int
 L : List ActC
 c : Int
 l : List CliX
 ck : Nat
 D : List CliX
 i : Nat
 n : Nat
def siS (y : SiX) (A : List Int) (j : Nat) (f : Nat → Option Value) : Fs := ⟨slots 8 [(1, trAct y.L), (2, .int .i64 y.c), (7, .pointer (some ⟨1, 0, none⟩)), (9, .pointer (some ⟨2, 0, none⟩)), (11, .int .i64 (y.i : Nat)), (22, .slice (some ⟨4, 0, none⟩) y.n U), (23, .int .i64 (j : Nat))] f, heap 3 [(0, .map (encC y.l) y.ck), (1, tabO y.most 0), (2, dT y.most y.D (some 3)), (3, dC y.D), (4, ints A)], 5, [], []⟩
theorem iV_set {A : List Int} {j : Nat} (h : j < A.length) (v : Int) : (A.map iV).take (0 + ((j : Nat) : Int).toNat * 1) ++ [.int .i64 v] ++ (A.map iV).drop (0 + ((j : Nat) : Int).toNat * 1 + 1) = (A.set j v).map iV := by
 rw [Int.toNat_natCast, Nat.mul_one, Nat.zero_add, List.map_set, List.set_eq_take_append_cons_drop, if_pos (by rw [List.length_map]; exact h)]
 simp [iV]
theorem zHy (y : SiX) (A0 : List Int) (hy : A0.length = y.n) (hn : y.n ≤ 1000000)
  {K : Ex → Fs → Prop} {s : Fs} (h0 : ∃ f, RcM Try.prog 0 0 (3 + (Try.f4.ntmps - 3)) none s (siS y A0 0 f))
  (hK : ∀ A f, K (.exit 2) (siS y A y.n f)) : LW Try.prog 0 0 (3 + (Try.f4.ntmps - 3)) none (loopAt Try.f4 1) s K := by
 obtain ⟨most, L, c, l, ck, D, i, n⟩ := y
 have hy : A0.length = n := hy
 have hn : n ≤ 1000000 := hn
 refine zCa (fun (s : Nat × List Int) f => siS ⟨most, L, c, l, ck, D, i, n⟩ s.2 s.1 f) (fun s => n - s.1) (fun s => s.1 ≤ n ∧ s.2.length = n) (0, A0) ⟨Nat.zero_le _, hy⟩ h0 ?_
 rintro ⟨j, A⟩ f ⟨hj, hA⟩
 have hj : j ≤ n := hj
 have hA : A.length = n := hA
 refine zEa tbTs9 [3, 4, 900003] 0 _ none mixed _ _ _ ?_
 refine ifK (fun g1 => ?_) (fun g1 => ?_)
 ·have g1 : j < n := by have g1 : ((j : Nat) : Int) < (n : Int) := of_decide_eq_true g1; omega
  refine ifK (fun _ => ?_) (fun h => absurd h (by simp [inI]; omega))
  refine Exists.intro undef (Exists.intro [((4 : Nat), some (ints (A.set j (-7))))] (Exists.intro (0 : Nat) (And.intro ?_ ?_)))
  ·exact zFx (b := 4) (off := 0 + ((j : Nat) : Int).toNat * 1) (sz := 1) (v := .int .i64 (-7)) (C := A.map iV) rfl rfl rfl rfl int_tyD rfl rfl (by rw [List.length_map, Int.toNat_natCast]; omega) (iV_set (by omega) _)
  ·exact ⟨(j + 1, A.set j (-7)), ⟨g1, by show (A.set j (-7)).length = n; rw [List.length_set]; exact hA⟩, by show n - (j + 1) < n - j; omega, rcq [0, 1, 2, 3, 4] ⟨⟨_, rfl, zAr 8 rfl⟩, ⟨_, rfl, .int _ _⟩, ⟨_, rfl, .ptr _ _ _ rfl⟩, ⟨_, rfl, .ptr _ _ _ rfl⟩, ⟨_, rfl, .int _ _⟩, ⟨_, rfl, .sl _ _ _ _ _ rfl⟩, zAc rfl (by show IntKind.i64.wrap ((j : Int) + 1) = ((j + 1 : Nat) : Int); rw [wrapN (by omega) (by omega)]; omega), trivial⟩ ⟨⟨by decide, _, rfl, zAf _ _⟩, ⟨by decide, _, rfl, zAh rfl⟩, ⟨by decide, _, rfl, zBu rfl⟩, ⟨by decide, _, rfl, zBb _⟩, bpo (zAj _), trivial⟩ .nil⟩
 ·have g1 : j = n := by have g1 : ¬ ((j : Nat) : Int) < (n : Int) := of_decide_eq_false g1; omega
  subst g1
  exact And.intro rfl (zCf (rcq [0, 1, 2, 3, 4] (d := 8) (d2 := 3) (lv := [(1, trAct L), (2, .int .i64 c), (7, .pointer (some ⟨1, 0, none⟩)), (9, .pointer (some ⟨2, 0, none⟩)), (11, .int .i64 (i : Nat)), (22, .slice (some ⟨4, 0, none⟩) j U), (23, .int .i64 (j : Nat))]) (bs := [(0, .map (encC l) ck), (1, tabO most 0), (2, dT most D (some 3)), (3, dC D), (4, ints A)]) (W := []) (m := 5) (df := []) ⟨⟨_, rfl, zAr 8 rfl⟩, ⟨_, rfl, .int _ _⟩, ⟨_, rfl, .ptr _ _ _ rfl⟩, ⟨_, rfl, .ptr _ _ _ rfl⟩, ⟨_, rfl, .int _ _⟩, ⟨_, rfl, .sl _ _ _ _ _ rfl⟩, ⟨_, rfl, .int _ _⟩, trivial⟩ ⟨⟨by decide, _, rfl, zAf _ _⟩, ⟨by decide, _, rfl, zAh rfl⟩, ⟨by decide, _, rfl, zBu rfl⟩, ⟨by decide, _, rfl, zBb _⟩, bpo (zAj _), trivial⟩ .nil) (fun f => hK A f))
end Go.Proofs.Ytpdeidlkeplegaa
namespace Go.Proofs.Ytpdeidlkeplegaa
open Go Go.RowKit
theorem zQe {D l : List CliX} (h : agreeD D l) (a : Int) : decide (atF D a ≥ 0) = hasC l a := by
 rw [← h.has]
 rcases zEt D a with ⟨h1, h2⟩ | ⟨k, hk, h1, h2, h3⟩
 ·rw [h1, h2]; rfl
 ·rw [h1, h3]; exact decide_eq_true (by omega)
theorem zQq (l : List CliX) (n : Int) (b : Bool) : (idleF l n b).2.length = l.length := by
 unfold idleF
 cases hh : hasC l n with
 | true => exact zMe hh
 | false => rfl
theorem zLn {D : List CliX} {a : Int} {G : Prop} (h1 : atF D a = -1 → hasC D a = false → G) (h2 : ∀ (k : Nat) (h : k < D.length), atF D a = (k : Int) → D[k].n = a → hasC D a = true → G) : G := by
 rcases zEt D a with ⟨q1, q2⟩ | ⟨k, hk, q1, q2, q3⟩
 ·exact h1 q1 q2
 ·exact h2 k hk q1 q2 q3
theorem zMs {l : List CliX} {a : Int} (h : hasC l a = false) : whenC l a = 0 := by
 unfold hasC at h
 unfold whenC
 cases hg : getC l a with
 | none => rfl
 | some c => rw [hg] at h; cases h
theorem zCe (D : List CliX) : (keysC D).length = D.length := by unfold keysC; rw [List.length_map]
theorem zMr {D l : List CliX} (h : agreeD D l) {a : Int} {k : Nat} (hk : k < D.length) (e : D[k].n = a) : whenC l a = D[k].w := by
 rw [← h.whenC]
 unfold whenC
 rw [(zCk (zBs h.1) hk e).1]; rfl
theorem zEo {D l : List CliX} (h : agreeD D l) (hD : D ≠ []) : (keysC l).length ≠ 0 := by
 unfold keysC
 rw [List.length_map, ← h.2.length_eq]
 exact fun e => hD (List.length_eq_zero_iff.1 e)
theorem zCh {l : List CliX} (h : l.length ≤ 1000000) : (keysC l).length ≤ 1000000 := by unfold keysC; rwa [List.length_map]
theorem zCr {l : List CliX} (h : l.length ≤ 1000000) : (isortI (keysC l)).length ≤ 1000000000 := by rw [(zAb _).length_eq]; have := zCh h; omega
theorem zHr {σ : Nat → Nat → Prop} {most : Int} {a b n : Nat} {D : List CliX} (h : n = D.length) (hs : σ a b) : RO Try.prog σ (.cells [.int .i64 most, .slice (some ⟨a, 0, none⟩) n U] 44) (dT most D (some b)) := by subst h; exact zBu hs
theorem idle_good {most : Int} {l : List CliX} {n : Int} {b : Bool} (hg : goodC most l) : goodC most (idleF l n b).2 := by
 unfold idleF
 cases hh : hasC l n with
 | true => exact ⟨hg.1, by show (keysC (putC l n _ _)).Nodup; rw [zGg hh]; exact hg.2.1, zKv hg.2.2.1 (zGg hh), by show (putC l n _ _).length ≤ _; rw [zMe hh]; exact hg.2.2.2⟩
 | false => exact hg
def scrN (most : Int) (L : List ActC) (c : Int) (l : List CliX) (ck : Nat) (i : Nat) (f : Nat → Option Value) : Fs := ⟨slots 8 [(1, trAct L), (2, .int .i64 c), (7, .pointer (some ⟨1, 0, none⟩)), (9, .pointer (some ⟨2, 0, none⟩)), (11, .int .i64 (i : Nat))] f, heap 3 [(0, .map (encC l) ck), (1, tabO most 0), (2, dT most [] none)], 3, [], []⟩
def scrO (most : Int) (L : List ActC) (c : Int) (l : List CliX) (ck : Nat) (D : List CliX) (i : Nat) (f : Nat → Option Value) : Fs := ⟨slots 8 [(1, trAct L), (2, .int .i64 c), (7, .pointer (some ⟨1, 0, none⟩)), (9, .pointer (some ⟨2, 0, none⟩)), (11, .int .i64 (i : Nat))] f, heap 3 [(0, .map (encC l) ck), (1, tabO most 0), (2, dT most D (some 3)), (3, dC D)], 4, [], []⟩
abbrev ScX := Nat × List CliX × Nat × List CliX × Bool
def scrS (most : Int) (L : List ActC) (c : Int) (s : ScX) (f : Nat → Option Value) : Fs := bif s.2.2.2.2 then scrO most L c s.2.1 s.2.2.1 s.2.2.2.1 s.1 f else scrN most L c s.2.1 s.2.2.1 s.1 f
def scrI (most : Int) (L : List ActC) (s : ScX) : Prop := s.1 ≤ L.length ∧ (rangeC s.2.1 ∧ (s.2.1.length : Int) ≤ most) ∧ agreeD s.2.2.2.1 s.2.1 ∧ (s.2.2.2.2 = true ↔ s.2.2.2.1 ≠ [])
theorem dtF_old {most : Int} {D : List CliX} {n now : Int} (h : (dtF most D n now).2.2 = false) : D.length = (dtF most D n now).2.1.length := by
 unfold dtF at h ⊢
 split
 ·rfl
 rename_i h1
 rw [if_neg h1] at h
 split
 ·rename_i h2; exact (zMe h2).symm
 rename_i h2
 rw [if_neg h2] at h
 split
 ·rename_i h3; rw [if_pos h3] at h; cases h
 rename_i h3
 rw [if_neg h3] at h
 split
 ·rfl
 rename_i h4
 rw [if_neg h4] at h; cases h
theorem dtF_new {most : Int} {D : List CliX} {n now : Int} (h : (dtF most D n now).2.2 = true) : (dtF most D n now).2.1 ≠ [] := by
 have hi : ∀ (D : List CliX) c, insD D c ≠ [] := fun D c e => by
  have := zDo D c
  rw [e] at this; simp at this
 unfold dtF at h ⊢
 split
 ·rename_i h1; rw [if_pos h1] at h; cases h
 rename_i h1
 rw [if_neg h1] at h
 split
 ·rename_i h2; rw [if_pos h2] at h; cases h
 rename_i h2
 rw [if_neg h2] at h
 split
 ·exact hi _ _
 rename_i h3
 rw [if_neg h3] at h
 split
 ·rename_i h4; rw [if_pos h4] at h; cases h
 exact hi _ _
def scrR (most : Int) (L : List ActC) (c : Int) (i : Nat) (K : Ex → Fs → Prop) (x : Ex) (s1 : Fs) : Prop := match x with
 | .normal => ∃ j, scrI most L j ∧ L.length - j.1 < L.length - i ∧ ∃ f', RcM Try.prog 0 0 (3 + (Try.f4.ntmps - 3)) none s1 (scrS most L c j f')
 | x => zLz x = true ∧ ∃ s2, RcM Try.prog 0 0 (3 + (Try.f4.ntmps - 3)) none s1 s2 ∧ K x s2
end Go.Proofs.Ytpdeidlkeplegaa
namespace Go.Proofs.Ytpdeidlkeplegaa
open Go Go.RowKit
theorem scr_own (most : Int) (L : List ActC) (c : Int) (hL : L.length ≤ 100000000000000 ∧ ∀ x ∈ L, -9223372036854775808 ≤ x.n ∧ x.n ≤ 9223372036854775807) (g1 : ¬ most < 1) (g2 : ¬ most > 1024) (g3 : L.length ≤ 200) (l : List CliX) (ck : Nat) (D : List CliX) (i : Nat) (hi : i ≤ L.length) (hr : rangeC l) (hlm : (l.length : Int) ≤ most) (hag : agreeD D l) (hD : D ≠ [])
  {K : Ex → Fs → Prop} (hK : ∀ f, K (.exit 0) ⟨slots 8 [] f, heap 0 [], 0, [], []⟩) (f : Nat → Option Value) : CW Try.prog 0 0 (3 + (Try.f4.ntmps - 3)) none (loopAt Try.f4 0) (scrO most L c l ck D i f) (scrR most L c i K) := by
 have hn := hag.nodup
 have hg : goodC most l := ⟨by omega, hn, hr, by omega⟩
 have hDl : D.length = l.length := hag.2.length_eq
 refine zEa tbTs9 [3, 5] 0 _ none mixed _ _ _ ?_
 refine ifK (fun h1 => ?_) (fun h1 => ?_)
 ·skip
  have h1 : i < L.length := by have h1 : ((i : Nat) : Int) < (L.length : Int) := of_decide_eq_true h1; omega
  refine ifK (fun _ => ?_) (fun h2 => absurd h2 (by simp [inI]; omega))
  refine Exists.intro L[i].k (Exists.intro L[i].n (Exists.intro L[i].now (Exists.intro L[i].is (And.intro (tree_at layAct h1) ?_))))
  refine ifK (fun _ => ?_) (fun _ => ?_)
  ·skip
   have hl' := (hag.idleF L[i].n L[i].is).2
   have hig : goodC most (idleF l L[i].n L[i].is).2 := idle_good hg
   have hdl : D.length = (idleF D L[i].n L[i].is).2.length := hDl.trans ((zQq l L[i].n L[i].is).symm.trans hl'.2.length_eq.symm)
   have hne1 : (idleF D L[i].n L[i].is).2 ≠ [] := fun e => hD (List.length_eq_zero_iff.1 (by rw [hdl, e]; rfl))
   have hlm1 : ((idleF l L[i].n L[i].is).2.length : Int) ≤ most := by rw [zQq]; exact hlm
   refine And.intro (by kernel_rfl) ?_
   refine Exists.intro ⟨1, 0, most, l, ck, L[i].n, L[i].is⟩ (And.intro ⟨rfl, ⟨by kernel_rfl, by kernel_rfl⟩, hg⟩ ?_)
   refine Exists.intro ⟨2, some 3, most, D, L[i].n, 0, L[i].is⟩ (And.intro ⟨⟨rfl, rfl⟩, zAx (by kernel_rfl) (by kernel_rfl), by show D.length ≤ _; omega, zBs hag.1⟩ ?_)
   refine ifK (fun h => absurd (show ((idleF l L[i].n L[i].is).1 != (idleF D L[i].n L[i].is).1) = true from h) (by rw [(hag.idleF _ _).1]; simp)) (fun _ => ?_)
   have hDl1 : D.length = ((idleF l L[i].n L[i].is).2).length := hdl.trans (hl').2.length_eq
   have hDl2 : ((idleF D L[i].n L[i].is).2).length ≤ 1000000 := by rw [(hl').2.length_eq]; exact (hig).2.2.2
   have hel1 : (encC ((idleF l L[i].n L[i].is).2)).length = ((idleF l L[i].n L[i].is).2).length := by unfold encC; rw [List.length_map]
   refine Exists.intro ⟨1, 0, most, (idleF l L[i].n L[i].is).2, ck, c, true⟩ (And.intro ⟨⟨rfl, rfl⟩, ⟨by kernel_rfl, by kernel_rfl⟩, hig⟩ ?_)
   refine Exists.intro ⟨2, some 3, most, (idleF D L[i].n L[i].is).2, c, 0, true⟩ (And.intro ⟨⟨rfl, rfl, rfl⟩, zAx (Eq.trans (show _ = some (AObj.cells [.int .i64 most, .slice (some ⟨3, 0, none⟩) (D.length) U] 44) from by kernel_rfl) (zCm hdl)) (by kernel_rfl), hDl2⟩ ?_)
   refine And.intro (by kernel_rfl) ?_
   refine ifK (fun h => absurd (show (most == 0) = true from h) (by simp; omega)) (fun _ => ?_)
   refine ifK (fun h => ?_) (fun _ => ?_)
   ·exfalso
    have h : (((encC ((idleF l L[i].n L[i].is).2)).length : Int) != (((D.length) : Nat) : Int)) = true := h
    rw [hel1, hDl1] at h; simp at h
   refine Exists.intro ⟨1, 0, most, (idleF l L[i].n L[i].is).2, ck, c, true⟩ (And.intro ⟨⟨rfl, rfl⟩, ⟨by kernel_rfl, by kernel_rfl⟩, hig⟩ ?_)
   have hha : decide (atF ((idleF D L[i].n L[i].is).2) c ≥ 0) = hasC ((idleF l L[i].n L[i].is).2) c := zQe hl' c
   refine ifK (fun h => ?_) (fun _ => ?_)
   ·exfalso
    have h : (!(hasC ((idleF l L[i].n L[i].is).2) c == decide (atF ((idleF D L[i].n L[i].is).2) c ≥ 0))) = true := h
    rw [hha] at h; simp at h
   refine ifK (fun h => ?_) (fun _ => ?_)
   ·exfalso
    have h : (!(hasC ((idleF l L[i].n L[i].is).2) c == decide (atF ((idleF D L[i].n L[i].is).2) c ≥ 0))) = true := h
    rw [hha] at h; simp at h
   refine zLn (D := (idleF D L[i].n L[i].is).2) (a := c) (fun q1 q2 => ?_) (fun k hk q1 q2 q3 => ?_)
   ·refine ifK (fun h => absurd (show decide (atF ((idleF D L[i].n L[i].is).2) c ≥ 0) = true from h) (by rw [q1]; decide)) (fun _ => ?_)
    refine ifK (fun _ => ?_) (fun h => absurd (show decide (atF ((idleF D L[i].n L[i].is).2) c < 0) = false from h) (by rw [q1]; decide))
    refine ifK (fun h => absurd (show (whenC ((idleF l L[i].n L[i].is).2) c != 0) = true from h) (by rw [zMs ((hl').has c ▸ q2)]; decide)) (fun _ => ?_)
    refine ifK (fun h => absurd (show (most == 0) = true from h) (by simp; omega)) (fun _ => ?_)
    refine Exists.intro ⟨5, 0, (idleF l L[i].n L[i].is).2, ck⟩ (And.intro ⟨rfl, by kernel_rfl, by kernel_rfl, (hig).2.1, (hig).2.2.1, (hig).2.2.2⟩ ?_)
    refine ifK (fun h => absurd (Nat.eq_of_beq_eq_true (show (keysC ((idleF l L[i].n L[i].is).2)).length.beq 0 = true from h)) (zEo hl' hne1)) (fun _ => ?_)
    refine Exists.intro ⟨2, some 3, most, (idleF D L[i].n L[i].is).2, 0, 0, true⟩ (And.intro ⟨⟨rfl, rfl, rfl, rfl⟩, zAx (Eq.trans (show _ = some (AObj.cells [.int .i64 most, .slice (some ⟨3, 0, none⟩) (D.length) U] 44) from by kernel_rfl) (zCm hdl)) (by kernel_rfl), hDl2, fun _ => hne1⟩ ?_)
    refine Exists.intro ⟨6, 7, isortI (keysC ((idleF l L[i].n L[i].is).2)), keysC ((idleF D L[i].n L[i].is).2), (keysC ((idleF l L[i].n L[i].is).2)).length, ((idleF D L[i].n L[i].is).2).length⟩ (And.intro ⟨rfl, ⟨by kernel_rfl, by kernel_rfl⟩, ⟨(zAb _).length_eq.symm, (zCe _).symm⟩, (show (6 : Nat) ≠ 7 by decide), zCr (hig).2.2.2⟩ ?_)
    refine ifK (fun h => absurd (show (!decide (isortI (keysC ((idleF l L[i].n L[i].is).2)) = keysC ((idleF D L[i].n L[i].is).2))) = true from h) (by rw [(hl').keys]; simp)) (fun _ => ?_)
    refine zHy ⟨most, L, c, (idleF l L[i].n L[i].is).2, ck, (idleF D L[i].n L[i].is).2, i, (keysC ((idleF l L[i].n L[i].is).2)).length⟩ (isortI (keysC ((idleF l L[i].n L[i].is).2))) (zAb _).length_eq (zCh (hig).2.2.2) (rcq [0, 1, 2, 3, 6] ⟨⟨_, rfl, zAr 8 rfl⟩, ⟨_, rfl, .int _ _⟩, ⟨_, rfl, .ptr _ _ _ rfl⟩, ⟨_, rfl, .ptr _ _ _ rfl⟩, ⟨_, rfl, .int _ _⟩, ⟨_, rfl, .sl _ _ _ _ _ rfl⟩, ⟨_, rfl, .int _ _⟩, trivial⟩ ⟨⟨by decide, _, rfl, zAf _ _⟩, ⟨by decide, _, rfl, zAh rfl⟩, ⟨by decide, _, rfl, zHr hdl rfl⟩, ⟨by decide, _, rfl, zBb _⟩, bpo (zAj _), trivial⟩ .nil) (fun A f => ?_)
    exact ⟨(i + 1, (idleF l L[i].n L[i].is).2, ck, (idleF D L[i].n L[i].is).2, true), ⟨h1, ⟨(hig).2.2.1, hlm1⟩, hl', ⟨fun _ => hne1, fun _ => rfl⟩⟩, by show L.length - (i + 1) < L.length - i; omega, rcq [0, 1, 2, 3] ⟨⟨_, rfl, zAr 8 rfl⟩, ⟨_, rfl, .int _ _⟩, ⟨_, rfl, .ptr _ _ _ rfl⟩, ⟨_, rfl, .ptr _ _ _ rfl⟩, zAc rfl (by show IntKind.i64.wrap ((i : Int) + 1) = ((i + 1 : Nat) : Int); rw [wrapN (by omega) (by omega)]; omega), trivial⟩ ⟨⟨by decide, _, rfl, zAf _ _⟩, ⟨by decide, _, rfl, zAh rfl⟩, ⟨by decide, _, rfl, zBu rfl⟩, ⟨by decide, _, rfl, zBb _⟩, trivial⟩ .nil⟩
   ·refine ifK (fun _ => ?_) (fun h => absurd (show decide (atF ((idleF D L[i].n L[i].is).2) c ≥ 0) = false from h) (by rw [q1]; simp))
    refine ifK (fun _ => ?_) (fun h => absurd (show inI (atF ((idleF D L[i].n L[i].is).2) c) (D.length) = false from h) (by rw [q1, hdl]; simp [inI]; omega))
    refine Exists.intro ((idleF D L[i].n L[i].is).2)[k].w (And.intro (by rw [q1]; exact zBl hk 1 rfl) ?_)
    have hwk : whenC ((idleF l L[i].n L[i].is).2) c = ((idleF D L[i].n L[i].is).2)[k].w := zMr hl' hk q2
    refine ifK (fun h => absurd (show (whenC ((idleF l L[i].n L[i].is).2) c != ((idleF D L[i].n L[i].is).2)[k].w) = true from h) (by rw [hwk]; simp)) (fun _ => ?_)
    refine ifK (fun h => absurd (show decide (atF ((idleF D L[i].n L[i].is).2) c < 0) = true from h) (by rw [q1]; simp)) (fun _ => ?_)
    refine ifK (fun h => absurd (show (most == 0) = true from h) (by simp; omega)) (fun _ => ?_)
    refine Exists.intro ⟨5, 0, (idleF l L[i].n L[i].is).2, ck⟩ (And.intro ⟨rfl, by kernel_rfl, by kernel_rfl, (hig).2.1, (hig).2.2.1, (hig).2.2.2⟩ ?_)
    refine ifK (fun h => absurd (Nat.eq_of_beq_eq_true (show (keysC ((idleF l L[i].n L[i].is).2)).length.beq 0 = true from h)) (zEo hl' hne1)) (fun _ => ?_)
    refine Exists.intro ⟨2, some 3, most, (idleF D L[i].n L[i].is).2, 0, 0, true⟩ (And.intro ⟨⟨rfl, rfl, rfl, rfl⟩, zAx (Eq.trans (show _ = some (AObj.cells [.int .i64 most, .slice (some ⟨3, 0, none⟩) (D.length) U] 44) from by kernel_rfl) (zCm hdl)) (by kernel_rfl), hDl2, fun _ => hne1⟩ ?_)
    refine Exists.intro ⟨6, 7, isortI (keysC ((idleF l L[i].n L[i].is).2)), keysC ((idleF D L[i].n L[i].is).2), (keysC ((idleF l L[i].n L[i].is).2)).length, ((idleF D L[i].n L[i].is).2).length⟩ (And.intro ⟨rfl, ⟨by kernel_rfl, by kernel_rfl⟩, ⟨(zAb _).length_eq.symm, (zCe _).symm⟩, (show (6 : Nat) ≠ 7 by decide), zCr (hig).2.2.2⟩ ?_)
    refine ifK (fun h => absurd (show (!decide (isortI (keysC ((idleF l L[i].n L[i].is).2)) = keysC ((idleF D L[i].n L[i].is).2))) = true from h) (by rw [(hl').keys]; simp)) (fun _ => ?_)
    refine zHy ⟨most, L, c, (idleF l L[i].n L[i].is).2, ck, (idleF D L[i].n L[i].is).2, i, (keysC ((idleF l L[i].n L[i].is).2)).length⟩ (isortI (keysC ((idleF l L[i].n L[i].is).2))) (zAb _).length_eq (zCh (hig).2.2.2) (rcq [0, 1, 2, 3, 6] ⟨⟨_, rfl, zAr 8 rfl⟩, ⟨_, rfl, .int _ _⟩, ⟨_, rfl, .ptr _ _ _ rfl⟩, ⟨_, rfl, .ptr _ _ _ rfl⟩, ⟨_, rfl, .int _ _⟩, ⟨_, rfl, .sl _ _ _ _ _ rfl⟩, ⟨_, rfl, .int _ _⟩, trivial⟩ ⟨⟨by decide, _, rfl, zAf _ _⟩, ⟨by decide, _, rfl, zAh rfl⟩, ⟨by decide, _, rfl, zHr hdl rfl⟩, ⟨by decide, _, rfl, zBb _⟩, bpo (zAj _), trivial⟩ .nil) (fun A f => ?_)
    exact ⟨(i + 1, (idleF l L[i].n L[i].is).2, ck, (idleF D L[i].n L[i].is).2, true), ⟨h1, ⟨(hig).2.2.1, hlm1⟩, hl', ⟨fun _ => hne1, fun _ => rfl⟩⟩, by show L.length - (i + 1) < L.length - i; omega, rcq [0, 1, 2, 3] ⟨⟨_, rfl, zAr 8 rfl⟩, ⟨_, rfl, .int _ _⟩, ⟨_, rfl, .ptr _ _ _ rfl⟩, ⟨_, rfl, .ptr _ _ _ rfl⟩, zAc rfl (by show IntKind.i64.wrap ((i : Int) + 1) = ((i + 1 : Nat) : Int); rw [wrapN (by omega) (by omega)]; omega), trivial⟩ ⟨⟨by decide, _, rfl, zAf _ _⟩, ⟨by decide, _, rfl, zAh rfl⟩, ⟨by decide, _, rfl, zBu rfl⟩, ⟨by decide, _, rfl, zBb _⟩, trivial⟩ .nil⟩
  ·skip
   have hlt := hag.touch most ck L[i].n L[i].now
   have ht1 := hlt.1
   have ht2 := hlt.2
   have htg := zLe (ck := ck) (n := L[i].n) (now := L[i].now) hg.1 hn hr hlm (hL.2 L[i] (List.getElem_mem h1))
   have hgT : goodC most (touchF most l ck L[i].n L[i].now).2.2.2.1 := ⟨hg.1, htg.1, htg.2.1, by have := htg.2.2; omega⟩
   have hlm1 := htg.2.2
   refine Exists.intro ⟨1, 0, most, l, ck, L[i].n, L[i].now⟩ (And.intro ⟨rfl, ⟨by kernel_rfl, by kernel_rfl⟩, hg⟩ ?_)
   refine Exists.intro ⟨2, some 3, most, D, L[i].n, L[i].now, true⟩ (And.intro ⟨⟨rfl, rfl⟩, zAx (by kernel_rfl) (by kernel_rfl), by show D.length ≤ _; omega, zBs hag.1, hg.1⟩ ?_)
   refine ifK (fun hw => ?_) (fun hw => ?_)
   ·have hw : (dtF most D L[i].n L[i].now).2.2 = true := hw
    have hne1 := dtF_new hw
    refine ifK (fun h => absurd (show ((touchF most l ck L[i].n L[i].now).1 != (dtF most D L[i].n L[i].now).1.1) = true from h) (by rw [ht1]; simp)) (fun _ => ?_)
    refine ifK (fun h => absurd (show (!((touchF most l ck L[i].n L[i].now).2.1 == (dtF most D L[i].n L[i].now).1.2.1)) = true from h) (by rw [ht1]; simp)) (fun _ => ?_)
    refine ifK (fun h => absurd (show ((touchF most l ck L[i].n L[i].now).2.2.1 != (dtF most D L[i].n L[i].now).1.2.2) = true from h) (by rw [ht1]; simp)) (fun _ => ?_)
    have hDl1 : ((dtF most D L[i].n L[i].now).2.1).length = ((touchF most l ck L[i].n L[i].now).2.2.2.1).length := (ht2).2.length_eq
    have hDl2 : ((dtF most D L[i].n L[i].now).2.1).length ≤ 1000000 := by rw [(ht2).2.length_eq]; exact (hgT).2.2.2
    have hel1 : (encC ((touchF most l ck L[i].n L[i].now).2.2.2.1)).length = ((touchF most l ck L[i].n L[i].now).2.2.2.1).length := by unfold encC; rw [List.length_map]
    refine Exists.intro ⟨1, 0, most, (touchF most l ck L[i].n L[i].now).2.2.2.1, (touchF most l ck L[i].n L[i].now).2.2.2.2, c, true⟩ (And.intro ⟨⟨rfl, rfl⟩, ⟨by kernel_rfl, by kernel_rfl⟩, hgT⟩ ?_)
    refine Exists.intro ⟨2, some 5, most, (dtF most D L[i].n L[i].now).2.1, c, 0, true⟩ (And.intro ⟨⟨rfl, rfl, rfl⟩, zAx (by kernel_rfl) (by kernel_rfl), hDl2⟩ ?_)
    refine And.intro (by kernel_rfl) ?_
    refine ifK (fun h => absurd (show (most == 0) = true from h) (by simp; omega)) (fun _ => ?_)
    refine ifK (fun h => ?_) (fun _ => ?_)
    ·exfalso
     have h : (((encC ((touchF most l ck L[i].n L[i].now).2.2.2.1)).length : Int) != (((((dtF most D L[i].n L[i].now).2.1).length) : Nat) : Int)) = true := h
     rw [hel1, hDl1] at h; simp at h
    refine Exists.intro ⟨1, 0, most, (touchF most l ck L[i].n L[i].now).2.2.2.1, (touchF most l ck L[i].n L[i].now).2.2.2.2, c, true⟩ (And.intro ⟨⟨rfl, rfl⟩, ⟨by kernel_rfl, by kernel_rfl⟩, hgT⟩ ?_)
    have hha : decide (atF ((dtF most D L[i].n L[i].now).2.1) c ≥ 0) = hasC ((touchF most l ck L[i].n L[i].now).2.2.2.1) c := zQe ht2 c
    refine ifK (fun h => ?_) (fun _ => ?_)
    ·exfalso
     have h : (!(hasC ((touchF most l ck L[i].n L[i].now).2.2.2.1) c == decide (atF ((dtF most D L[i].n L[i].now).2.1) c ≥ 0))) = true := h
     rw [hha] at h; simp at h
    refine ifK (fun h => ?_) (fun _ => ?_)
    ·exfalso
     have h : (!(hasC ((touchF most l ck L[i].n L[i].now).2.2.2.1) c == decide (atF ((dtF most D L[i].n L[i].now).2.1) c ≥ 0))) = true := h
     rw [hha] at h; simp at h
    refine zLn (D := (dtF most D L[i].n L[i].now).2.1) (a := c) (fun q1 q2 => ?_) (fun k hk q1 q2 q3 => ?_)
    ·refine ifK (fun h => absurd (show decide (atF ((dtF most D L[i].n L[i].now).2.1) c ≥ 0) = true from h) (by rw [q1]; decide)) (fun _ => ?_)
     refine ifK (fun _ => ?_) (fun h => absurd (show decide (atF ((dtF most D L[i].n L[i].now).2.1) c < 0) = false from h) (by rw [q1]; decide))
     refine ifK (fun h => absurd (show (whenC ((touchF most l ck L[i].n L[i].now).2.2.2.1) c != 0) = true from h) (by rw [zMs ((ht2).has c ▸ q2)]; decide)) (fun _ => ?_)
     refine ifK (fun h => absurd (show (most == 0) = true from h) (by simp; omega)) (fun _ => ?_)
     refine Exists.intro ⟨6, 0, (touchF most l ck L[i].n L[i].now).2.2.2.1, (touchF most l ck L[i].n L[i].now).2.2.2.2⟩ (And.intro ⟨rfl, by kernel_rfl, by kernel_rfl, (hgT).2.1, (hgT).2.2.1, (hgT).2.2.2⟩ ?_)
     refine ifK (fun h => absurd (Nat.eq_of_beq_eq_true (show (keysC ((touchF most l ck L[i].n L[i].now).2.2.2.1)).length.beq 0 = true from h)) (zEo ht2 hne1)) (fun _ => ?_)
     refine Exists.intro ⟨2, some 5, most, (dtF most D L[i].n L[i].now).2.1, 0, 0, true⟩ (And.intro ⟨⟨rfl, rfl, rfl, rfl⟩, zAx (by kernel_rfl) (by kernel_rfl), hDl2, fun _ => hne1⟩ ?_)
     refine Exists.intro ⟨7, 8, isortI (keysC ((touchF most l ck L[i].n L[i].now).2.2.2.1)), keysC ((dtF most D L[i].n L[i].now).2.1), (keysC ((touchF most l ck L[i].n L[i].now).2.2.2.1)).length, ((dtF most D L[i].n L[i].now).2.1).length⟩ (And.intro ⟨rfl, ⟨by kernel_rfl, by kernel_rfl⟩, ⟨(zAb _).length_eq.symm, (zCe _).symm⟩, (show (7 : Nat) ≠ 8 by decide), zCr (hgT).2.2.2⟩ ?_)
     refine ifK (fun h => absurd (show (!decide (isortI (keysC ((touchF most l ck L[i].n L[i].now).2.2.2.1)) = keysC ((dtF most D L[i].n L[i].now).2.1))) = true from h) (by rw [(ht2).keys]; simp)) (fun _ => ?_)
     refine zHy ⟨most, L, c, (touchF most l ck L[i].n L[i].now).2.2.2.1, (touchF most l ck L[i].n L[i].now).2.2.2.2, (dtF most D L[i].n L[i].now).2.1, i, (keysC ((touchF most l ck L[i].n L[i].now).2.2.2.1)).length⟩ (isortI (keysC ((touchF most l ck L[i].n L[i].now).2.2.2.1))) (zAb _).length_eq (zCh (hgT).2.2.2) (rcq [0, 1, 2, 5, 7] ⟨⟨_, rfl, zAr 8 rfl⟩, ⟨_, rfl, .int _ _⟩, ⟨_, rfl, .ptr _ _ _ rfl⟩, ⟨_, rfl, .ptr _ _ _ rfl⟩, ⟨_, rfl, .int _ _⟩, ⟨_, rfl, .sl _ _ _ _ _ rfl⟩, ⟨_, rfl, .int _ _⟩, trivial⟩ ⟨⟨by decide, _, rfl, zAf _ _⟩, ⟨by decide, _, rfl, zAh rfl⟩, ⟨by decide, _, rfl, zHr rfl rfl⟩, ⟨by decide, _, rfl, zBb _⟩, bpo (zAj _), trivial⟩ .nil) (fun A f => ?_)
     exact ⟨(i + 1, (touchF most l ck L[i].n L[i].now).2.2.2.1, (touchF most l ck L[i].n L[i].now).2.2.2.2, (dtF most D L[i].n L[i].now).2.1, true), ⟨h1, ⟨(hgT).2.2.1, hlm1⟩, ht2, ⟨fun _ => hne1, fun _ => rfl⟩⟩, by show L.length - (i + 1) < L.length - i; omega, rcq [0, 1, 2, 3] ⟨⟨_, rfl, zAr 8 rfl⟩, ⟨_, rfl, .int _ _⟩, ⟨_, rfl, .ptr _ _ _ rfl⟩, ⟨_, rfl, .ptr _ _ _ rfl⟩, zAc rfl (by show IntKind.i64.wrap ((i : Int) + 1) = ((i + 1 : Nat) : Int); rw [wrapN (by omega) (by omega)]; omega), trivial⟩ ⟨⟨by decide, _, rfl, zAf _ _⟩, ⟨by decide, _, rfl, zAh rfl⟩, ⟨by decide, _, rfl, zBu rfl⟩, ⟨by decide, _, rfl, zBb _⟩, trivial⟩ .nil⟩
    ·refine ifK (fun _ => ?_) (fun h => absurd (show decide (atF ((dtF most D L[i].n L[i].now).2.1) c ≥ 0) = false from h) (by rw [q1]; simp))
     refine ifK (fun _ => ?_) (fun h => absurd (show inI (atF ((dtF most D L[i].n L[i].now).2.1) c) (((dtF most D L[i].n L[i].now).2.1).length) = false from h) (by rw [q1, show (((dtF most D L[i].n L[i].now).2.1).length) = ((dtF most D L[i].n L[i].now).2.1).length from rfl]; simp [inI]; omega))
     refine Exists.intro ((dtF most D L[i].n L[i].now).2.1)[k].w (And.intro (by rw [q1]; exact zBl hk 1 rfl) ?_)
     have hwk : whenC ((touchF most l ck L[i].n L[i].now).2.2.2.1) c = ((dtF most D L[i].n L[i].now).2.1)[k].w := zMr ht2 hk q2
     refine ifK (fun h => absurd (show (whenC ((touchF most l ck L[i].n L[i].now).2.2.2.1) c != ((dtF most D L[i].n L[i].now).2.1)[k].w) = true from h) (by rw [hwk]; simp)) (fun _ => ?_)
     refine ifK (fun h => absurd (show decide (atF ((dtF most D L[i].n L[i].now).2.1) c < 0) = true from h) (by rw [q1]; simp)) (fun _ => ?_)
     refine ifK (fun h => absurd (show (most == 0) = true from h) (by simp; omega)) (fun _ => ?_)
     refine Exists.intro ⟨6, 0, (touchF most l ck L[i].n L[i].now).2.2.2.1, (touchF most l ck L[i].n L[i].now).2.2.2.2⟩ (And.intro ⟨rfl, by kernel_rfl, by kernel_rfl, (hgT).2.1, (hgT).2.2.1, (hgT).2.2.2⟩ ?_)
     refine ifK (fun h => absurd (Nat.eq_of_beq_eq_true (show (keysC ((touchF most l ck L[i].n L[i].now).2.2.2.1)).length.beq 0 = true from h)) (zEo ht2 hne1)) (fun _ => ?_)
     refine Exists.intro ⟨2, some 5, most, (dtF most D L[i].n L[i].now).2.1, 0, 0, true⟩ (And.intro ⟨⟨rfl, rfl, rfl, rfl⟩, zAx (by kernel_rfl) (by kernel_rfl), hDl2, fun _ => hne1⟩ ?_)
     refine Exists.intro ⟨7, 8, isortI (keysC ((touchF most l ck L[i].n L[i].now).2.2.2.1)), keysC ((dtF most D L[i].n L[i].now).2.1), (keysC ((touchF most l ck L[i].n L[i].now).2.2.2.1)).length, ((dtF most D L[i].n L[i].now).2.1).length⟩ (And.intro ⟨rfl, ⟨by kernel_rfl, by kernel_rfl⟩, ⟨(zAb _).length_eq.symm, (zCe _).symm⟩, (show (7 : Nat) ≠ 8 by decide), zCr (hgT).2.2.2⟩ ?_)
     refine ifK (fun h => absurd (show (!decide (isortI (keysC ((touchF most l ck L[i].n L[i].now).2.2.2.1)) = keysC ((dtF most D L[i].n L[i].now).2.1))) = true from h) (by rw [(ht2).keys]; simp)) (fun _ => ?_)
     refine zHy ⟨most, L, c, (touchF most l ck L[i].n L[i].now).2.2.2.1, (touchF most l ck L[i].n L[i].now).2.2.2.2, (dtF most D L[i].n L[i].now).2.1, i, (keysC ((touchF most l ck L[i].n L[i].now).2.2.2.1)).length⟩ (isortI (keysC ((touchF most l ck L[i].n L[i].now).2.2.2.1))) (zAb _).length_eq (zCh (hgT).2.2.2) (rcq [0, 1, 2, 5, 7] ⟨⟨_, rfl, zAr 8 rfl⟩, ⟨_, rfl, .int _ _⟩, ⟨_, rfl, .ptr _ _ _ rfl⟩, ⟨_, rfl, .ptr _ _ _ rfl⟩, ⟨_, rfl, .int _ _⟩, ⟨_, rfl, .sl _ _ _ _ _ rfl⟩, ⟨_, rfl, .int _ _⟩, trivial⟩ ⟨⟨by decide, _, rfl, zAf _ _⟩, ⟨by decide, _, rfl, zAh rfl⟩, ⟨by decide, _, rfl, zHr rfl rfl⟩, ⟨by decide, _, rfl, zBb _⟩, bpo (zAj _), trivial⟩ .nil) (fun A f => ?_)
     exact ⟨(i + 1, (touchF most l ck L[i].n L[i].now).2.2.2.1, (touchF most l ck L[i].n L[i].now).2.2.2.2, (dtF most D L[i].n L[i].now).2.1, true), ⟨h1, ⟨(hgT).2.2.1, hlm1⟩, ht2, ⟨fun _ => hne1, fun _ => rfl⟩⟩, by show L.length - (i + 1) < L.length - i; omega, rcq [0, 1, 2, 3] ⟨⟨_, rfl, zAr 8 rfl⟩, ⟨_, rfl, .int _ _⟩, ⟨_, rfl, .ptr _ _ _ rfl⟩, ⟨_, rfl, .ptr _ _ _ rfl⟩, zAc rfl (by show IntKind.i64.wrap ((i : Int) + 1) = ((i + 1 : Nat) : Int); rw [wrapN (by omega) (by omega)]; omega), trivial⟩ ⟨⟨by decide, _, rfl, zAf _ _⟩, ⟨by decide, _, rfl, zAh rfl⟩, ⟨by decide, _, rfl, zBu rfl⟩, ⟨by decide, _, rfl, zBb _⟩, trivial⟩ .nil⟩
   ·have hw : (dtF most D L[i].n L[i].now).2.2 = false := hw
    have hdl := dtF_old hw
    have hne1 : (dtF most D L[i].n L[i].now).2.1 ≠ [] := fun e => hD (List.length_eq_zero_iff.1 (by rw [hdl, e]; rfl))
    refine ifK (fun h => absurd (show ((touchF most l ck L[i].n L[i].now).1 != (dtF most D L[i].n L[i].now).1.1) = true from h) (by rw [ht1]; simp)) (fun _ => ?_)
    refine ifK (fun h => absurd (show (!((touchF most l ck L[i].n L[i].now).2.1 == (dtF most D L[i].n L[i].now).1.2.1)) = true from h) (by rw [ht1]; simp)) (fun _ => ?_)
    refine ifK (fun h => absurd (show ((touchF most l ck L[i].n L[i].now).2.2.1 != (dtF most D L[i].n L[i].now).1.2.2) = true from h) (by rw [ht1]; simp)) (fun _ => ?_)
    have hDl1 : D.length = ((touchF most l ck L[i].n L[i].now).2.2.2.1).length := hdl.trans (ht2).2.length_eq
    have hDl2 : ((dtF most D L[i].n L[i].now).2.1).length ≤ 1000000 := by rw [(ht2).2.length_eq]; exact (hgT).2.2.2
    have hel1 : (encC ((touchF most l ck L[i].n L[i].now).2.2.2.1)).length = ((touchF most l ck L[i].n L[i].now).2.2.2.1).length := by unfold encC; rw [List.length_map]
    refine Exists.intro ⟨1, 0, most, (touchF most l ck L[i].n L[i].now).2.2.2.1, (touchF most l ck L[i].n L[i].now).2.2.2.2, c, true⟩ (And.intro ⟨⟨rfl, rfl⟩, ⟨by kernel_rfl, by kernel_rfl⟩, hgT⟩ ?_)
    refine Exists.intro ⟨2, some 3, most, (dtF most D L[i].n L[i].now).2.1, c, 0, true⟩ (And.intro ⟨⟨rfl, rfl, rfl⟩, zAx (Eq.trans (show _ = some (AObj.cells [.int .i64 most, .slice (some ⟨3, 0, none⟩) (D.length) U] 44) from by kernel_rfl) (zCm hdl)) (by kernel_rfl), hDl2⟩ ?_)
    refine And.intro (by kernel_rfl) ?_
    refine ifK (fun h => absurd (show (most == 0) = true from h) (by simp; omega)) (fun _ => ?_)
    refine ifK (fun h => ?_) (fun _ => ?_)
    ·exfalso
     have h : (((encC ((touchF most l ck L[i].n L[i].now).2.2.2.1)).length : Int) != (((D.length) : Nat) : Int)) = true := h
     rw [hel1, hDl1] at h; simp at h
    refine Exists.intro ⟨1, 0, most, (touchF most l ck L[i].n L[i].now).2.2.2.1, (touchF most l ck L[i].n L[i].now).2.2.2.2, c, true⟩ (And.intro ⟨⟨rfl, rfl⟩, ⟨by kernel_rfl, by kernel_rfl⟩, hgT⟩ ?_)
    have hha : decide (atF ((dtF most D L[i].n L[i].now).2.1) c ≥ 0) = hasC ((touchF most l ck L[i].n L[i].now).2.2.2.1) c := zQe ht2 c
    refine ifK (fun h => ?_) (fun _ => ?_)
    ·exfalso
     have h : (!(hasC ((touchF most l ck L[i].n L[i].now).2.2.2.1) c == decide (atF ((dtF most D L[i].n L[i].now).2.1) c ≥ 0))) = true := h
     rw [hha] at h; simp at h
    refine ifK (fun h => ?_) (fun _ => ?_)
    ·exfalso
     have h : (!(hasC ((touchF most l ck L[i].n L[i].now).2.2.2.1) c == decide (atF ((dtF most D L[i].n L[i].now).2.1) c ≥ 0))) = true := h
     rw [hha] at h; simp at h
    refine zLn (D := (dtF most D L[i].n L[i].now).2.1) (a := c) (fun q1 q2 => ?_) (fun k hk q1 q2 q3 => ?_)
    ·refine ifK (fun h => absurd (show decide (atF ((dtF most D L[i].n L[i].now).2.1) c ≥ 0) = true from h) (by rw [q1]; decide)) (fun _ => ?_)
     refine ifK (fun _ => ?_) (fun h => absurd (show decide (atF ((dtF most D L[i].n L[i].now).2.1) c < 0) = false from h) (by rw [q1]; decide))
     refine ifK (fun h => absurd (show (whenC ((touchF most l ck L[i].n L[i].now).2.2.2.1) c != 0) = true from h) (by rw [zMs ((ht2).has c ▸ q2)]; decide)) (fun _ => ?_)
     refine ifK (fun h => absurd (show (most == 0) = true from h) (by simp; omega)) (fun _ => ?_)
     refine Exists.intro ⟨5, 0, (touchF most l ck L[i].n L[i].now).2.2.2.1, (touchF most l ck L[i].n L[i].now).2.2.2.2⟩ (And.intro ⟨rfl, by kernel_rfl, by kernel_rfl, (hgT).2.1, (hgT).2.2.1, (hgT).2.2.2⟩ ?_)
     refine ifK (fun h => absurd (Nat.eq_of_beq_eq_true (show (keysC ((touchF most l ck L[i].n L[i].now).2.2.2.1)).length.beq 0 = true from h)) (zEo ht2 hne1)) (fun _ => ?_)
     refine Exists.intro ⟨2, some 3, most, (dtF most D L[i].n L[i].now).2.1, 0, 0, true⟩ (And.intro ⟨⟨rfl, rfl, rfl, rfl⟩, zAx (Eq.trans (show _ = some (AObj.cells [.int .i64 most, .slice (some ⟨3, 0, none⟩) (D.length) U] 44) from by kernel_rfl) (zCm hdl)) (by kernel_rfl), hDl2, fun _ => hne1⟩ ?_)
     refine Exists.intro ⟨6, 7, isortI (keysC ((touchF most l ck L[i].n L[i].now).2.2.2.1)), keysC ((dtF most D L[i].n L[i].now).2.1), (keysC ((touchF most l ck L[i].n L[i].now).2.2.2.1)).length, ((dtF most D L[i].n L[i].now).2.1).length⟩ (And.intro ⟨rfl, ⟨by kernel_rfl, by kernel_rfl⟩, ⟨(zAb _).length_eq.symm, (zCe _).symm⟩, (show (6 : Nat) ≠ 7 by decide), zCr (hgT).2.2.2⟩ ?_)
     refine ifK (fun h => absurd (show (!decide (isortI (keysC ((touchF most l ck L[i].n L[i].now).2.2.2.1)) = keysC ((dtF most D L[i].n L[i].now).2.1))) = true from h) (by rw [(ht2).keys]; simp)) (fun _ => ?_)
     refine zHy ⟨most, L, c, (touchF most l ck L[i].n L[i].now).2.2.2.1, (touchF most l ck L[i].n L[i].now).2.2.2.2, (dtF most D L[i].n L[i].now).2.1, i, (keysC ((touchF most l ck L[i].n L[i].now).2.2.2.1)).length⟩ (isortI (keysC ((touchF most l ck L[i].n L[i].now).2.2.2.1))) (zAb _).length_eq (zCh (hgT).2.2.2) (rcq [0, 1, 2, 3, 6] ⟨⟨_, rfl, zAr 8 rfl⟩, ⟨_, rfl, .int _ _⟩, ⟨_, rfl, .ptr _ _ _ rfl⟩, ⟨_, rfl, .ptr _ _ _ rfl⟩, ⟨_, rfl, .int _ _⟩, ⟨_, rfl, .sl _ _ _ _ _ rfl⟩, ⟨_, rfl, .int _ _⟩, trivial⟩ ⟨⟨by decide, _, rfl, zAf _ _⟩, ⟨by decide, _, rfl, zAh rfl⟩, ⟨by decide, _, rfl, zHr hdl rfl⟩, ⟨by decide, _, rfl, zBb _⟩, bpo (zAj _), trivial⟩ .nil) (fun A f => ?_)
     exact ⟨(i + 1, (touchF most l ck L[i].n L[i].now).2.2.2.1, (touchF most l ck L[i].n L[i].now).2.2.2.2, (dtF most D L[i].n L[i].now).2.1, true), ⟨h1, ⟨(hgT).2.2.1, hlm1⟩, ht2, ⟨fun _ => hne1, fun _ => rfl⟩⟩, by show L.length - (i + 1) < L.length - i; omega, rcq [0, 1, 2, 3] ⟨⟨_, rfl, zAr 8 rfl⟩, ⟨_, rfl, .int _ _⟩, ⟨_, rfl, .ptr _ _ _ rfl⟩, ⟨_, rfl, .ptr _ _ _ rfl⟩, zAc rfl (by show IntKind.i64.wrap ((i : Int) + 1) = ((i + 1 : Nat) : Int); rw [wrapN (by omega) (by omega)]; omega), trivial⟩ ⟨⟨by decide, _, rfl, zAf _ _⟩, ⟨by decide, _, rfl, zAh rfl⟩, ⟨by decide, _, rfl, zBu rfl⟩, ⟨by decide, _, rfl, zBb _⟩, trivial⟩ .nil⟩
    ·refine ifK (fun _ => ?_) (fun h => absurd (show decide (atF ((dtF most D L[i].n L[i].now).2.1) c ≥ 0) = false from h) (by rw [q1]; simp))
     refine ifK (fun _ => ?_) (fun h => absurd (show inI (atF ((dtF most D L[i].n L[i].now).2.1) c) (D.length) = false from h) (by rw [q1, hdl]; simp [inI]; omega))
     refine Exists.intro ((dtF most D L[i].n L[i].now).2.1)[k].w (And.intro (by rw [q1]; exact zBl hk 1 rfl) ?_)
     have hwk : whenC ((touchF most l ck L[i].n L[i].now).2.2.2.1) c = ((dtF most D L[i].n L[i].now).2.1)[k].w := zMr ht2 hk q2
     refine ifK (fun h => absurd (show (whenC ((touchF most l ck L[i].n L[i].now).2.2.2.1) c != ((dtF most D L[i].n L[i].now).2.1)[k].w) = true from h) (by rw [hwk]; simp)) (fun _ => ?_)
     refine ifK (fun h => absurd (show decide (atF ((dtF most D L[i].n L[i].now).2.1) c < 0) = true from h) (by rw [q1]; simp)) (fun _ => ?_)
     refine ifK (fun h => absurd (show (most == 0) = true from h) (by simp; omega)) (fun _ => ?_)
     refine Exists.intro ⟨5, 0, (touchF most l ck L[i].n L[i].now).2.2.2.1, (touchF most l ck L[i].n L[i].now).2.2.2.2⟩ (And.intro ⟨rfl, by kernel_rfl, by kernel_rfl, (hgT).2.1, (hgT).2.2.1, (hgT).2.2.2⟩ ?_)
     refine ifK (fun h => absurd (Nat.eq_of_beq_eq_true (show (keysC ((touchF most l ck L[i].n L[i].now).2.2.2.1)).length.beq 0 = true from h)) (zEo ht2 hne1)) (fun _ => ?_)
     refine Exists.intro ⟨2, some 3, most, (dtF most D L[i].n L[i].now).2.1, 0, 0, true⟩ (And.intro ⟨⟨rfl, rfl, rfl, rfl⟩, zAx (Eq.trans (show _ = some (AObj.cells [.int .i64 most, .slice (some ⟨3, 0, none⟩) (D.length) U] 44) from by kernel_rfl) (zCm hdl)) (by kernel_rfl), hDl2, fun _ => hne1⟩ ?_)
     refine Exists.intro ⟨6, 7, isortI (keysC ((touchF most l ck L[i].n L[i].now).2.2.2.1)), keysC ((dtF most D L[i].n L[i].now).2.1), (keysC ((touchF most l ck L[i].n L[i].now).2.2.2.1)).length, ((dtF most D L[i].n L[i].now).2.1).length⟩ (And.intro ⟨rfl, ⟨by kernel_rfl, by kernel_rfl⟩, ⟨(zAb _).length_eq.symm, (zCe _).symm⟩, (show (6 : Nat) ≠ 7 by decide), zCr (hgT).2.2.2⟩ ?_)
     refine ifK (fun h => absurd (show (!decide (isortI (keysC ((touchF most l ck L[i].n L[i].now).2.2.2.1)) = keysC ((dtF most D L[i].n L[i].now).2.1))) = true from h) (by rw [(ht2).keys]; simp)) (fun _ => ?_)
     refine zHy ⟨most, L, c, (touchF most l ck L[i].n L[i].now).2.2.2.1, (touchF most l ck L[i].n L[i].now).2.2.2.2, (dtF most D L[i].n L[i].now).2.1, i, (keysC ((touchF most l ck L[i].n L[i].now).2.2.2.1)).length⟩ (isortI (keysC ((touchF most l ck L[i].n L[i].now).2.2.2.1))) (zAb _).length_eq (zCh (hgT).2.2.2) (rcq [0, 1, 2, 3, 6] ⟨⟨_, rfl, zAr 8 rfl⟩, ⟨_, rfl, .int _ _⟩, ⟨_, rfl, .ptr _ _ _ rfl⟩, ⟨_, rfl, .ptr _ _ _ rfl⟩, ⟨_, rfl, .int _ _⟩, ⟨_, rfl, .sl _ _ _ _ _ rfl⟩, ⟨_, rfl, .int _ _⟩, trivial⟩ ⟨⟨by decide, _, rfl, zAf _ _⟩, ⟨by decide, _, rfl, zAh rfl⟩, ⟨by decide, _, rfl, zHr hdl rfl⟩, ⟨by decide, _, rfl, zBb _⟩, bpo (zAj _), trivial⟩ .nil) (fun A f => ?_)
     exact ⟨(i + 1, (touchF most l ck L[i].n L[i].now).2.2.2.1, (touchF most l ck L[i].n L[i].now).2.2.2.2, (dtF most D L[i].n L[i].now).2.1, true), ⟨h1, ⟨(hgT).2.2.1, hlm1⟩, ht2, ⟨fun _ => hne1, fun _ => rfl⟩⟩, by show L.length - (i + 1) < L.length - i; omega, rcq [0, 1, 2, 3] ⟨⟨_, rfl, zAr 8 rfl⟩, ⟨_, rfl, .int _ _⟩, ⟨_, rfl, .ptr _ _ _ rfl⟩, ⟨_, rfl, .ptr _ _ _ rfl⟩, zAc rfl (by show IntKind.i64.wrap ((i : Int) + 1) = ((i + 1 : Nat) : Int); rw [wrapN (by omega) (by omega)]; omega), trivial⟩ ⟨⟨by decide, _, rfl, zAf _ _⟩, ⟨by decide, _, rfl, zAh rfl⟩, ⟨by decide, _, rfl, zBu rfl⟩, ⟨by decide, _, rfl, zBb _⟩, trivial⟩ .nil⟩
 ·exact And.intro rfl (zCf (rcq [] (d := 8) (d2 := 0) (lv := []) (bs := []) (W := []) (m := 0) (df := []) trivial trivial .nil) hK)
end Go.Proofs.Ytpdeidlkeplegaa
namespace Go.Proofs.Ytpdeidlkeplegaa
open Go Go.RowKit
theorem scr_nil (most : Int) (L : List ActC) (c : Int) (hL : L.length ≤ 100000000000000 ∧ ∀ x ∈ L, -9223372036854775808 ≤ x.n ∧ x.n ≤ 9223372036854775807) (g1 : ¬ most < 1) (g2 : ¬ most > 1024) (g3 : L.length ≤ 200) (ck : Nat) (i : Nat) (hi : i ≤ L.length) 
  {K : Ex → Fs → Prop} (hK : ∀ f, K (.exit 0) ⟨slots 8 [] f, heap 0 [], 0, [], []⟩) (f : Nat → Option Value) : CW Try.prog 0 0 (3 + (Try.f4.ntmps - 3)) none (loopAt Try.f4 0) (scrN most L c [] ck i f) (scrR most L c i K) := by
 have hag : agreeD [] ([] : List CliX) := ⟨List.Pairwise.nil, .refl _⟩
 have hlm : ((([] : List CliX).length : Nat) : Int) ≤ most := by show (0 : Int) ≤ most; omega
 have hg : goodC most [] := ⟨by omega, List.nodup_nil, (fun c hc => by cases hc), Nat.zero_le _⟩
 refine zEa tbTs9 [4] 0 _ none mixed _ _ _ ?_
 refine ifK (fun h1 => ?_) (fun h1 => ?_)
 ·skip
  have h1 : i < L.length := by have h1 : ((i : Nat) : Int) < (L.length : Int) := of_decide_eq_true h1; omega
  refine ifK (fun _ => ?_) (fun h2 => absurd h2 (by simp [inI]; omega))
  refine Exists.intro L[i].k (Exists.intro L[i].n (Exists.intro L[i].now (Exists.intro L[i].is (And.intro (tree_at layAct h1) ?_))))
  refine ifK (fun _ => ?_) (fun _ => ?_)
  ·skip
   have hl' : agreeD [] ([] : List CliX) := hag
   have hlm1 := hlm
   refine And.intro (by kernel_rfl) ?_
   refine Exists.intro ⟨1, 0, most, [], ck, L[i].n, L[i].is⟩ (And.intro ⟨rfl, ⟨by kernel_rfl, by kernel_rfl⟩, hg⟩ ?_)
   refine Exists.intro ⟨2, none, most, [], L[i].n, 0, L[i].is⟩ (And.intro ⟨⟨rfl, rfl⟩, zDm (by kernel_rfl), Nat.zero_le _, List.nodup_nil⟩ ?_)
   refine Exists.intro ⟨1, 0, most, [], ck, c, true⟩ (And.intro ⟨⟨rfl, rfl⟩, ⟨by kernel_rfl, by kernel_rfl⟩, hg⟩ ?_)
   refine Exists.intro ⟨2, none, most, [], c, 0, true⟩ (And.intro ⟨⟨rfl, rfl, rfl⟩, zDm (by kernel_rfl), Nat.zero_le _⟩ ?_)
   refine And.intro (by kernel_rfl) ?_
   refine ifK (fun h => absurd (show (most == 0) = true from h) (by simp; omega)) (fun _ => ?_)
   refine Exists.intro ⟨1, 0, most, [], ck, c, true⟩ (And.intro ⟨⟨rfl, rfl⟩, ⟨by kernel_rfl, by kernel_rfl⟩, hg⟩ ?_)
   refine ifK (fun h => absurd (show (most == 0) = true from h) (by simp; omega)) (fun _ => ?_)
   refine Exists.intro ⟨4, 0, [], ck⟩ (And.intro ⟨rfl, by kernel_rfl, by kernel_rfl, (hg).2.1, (hg).2.2.1, (hg).2.2.2⟩ ?_)
   refine Exists.intro ⟨2, none, most, [], 0, 0, true⟩ (And.intro ⟨⟨rfl, rfl, rfl, rfl⟩, zDm (by kernel_rfl), Nat.zero_le _, (fun h => by cases h)⟩ ?_)
   refine LW.round (zEa tbTs9 [4] 0 _ none mixed _ _ _ ?_)
   exact ⟨(i + 1, [], ck, [], false), ⟨h1, ⟨(hg).2.2.1, hlm1⟩, hl', ⟨(fun h => by cases h), fun h => absurd rfl h⟩⟩, by show L.length - (i + 1) < L.length - i; omega, rcq [0, 1, 2] ⟨⟨_, rfl, zAr 8 rfl⟩, ⟨_, rfl, .int _ _⟩, ⟨_, rfl, .ptr _ _ _ rfl⟩, ⟨_, rfl, .ptr _ _ _ rfl⟩, zAc rfl (by show IntKind.i64.wrap ((i : Int) + 1) = ((i + 1 : Nat) : Int); rw [wrapN (by omega) (by omega)]; omega), trivial⟩ ⟨⟨by decide, _, rfl, zAf _ _⟩, ⟨by decide, _, rfl, zAh rfl⟩, ⟨by decide, _, rfl, zQf⟩, trivial⟩ .nil⟩
  ·skip
   have hlt := hag.touch most ck L[i].n L[i].now
   have ht1 := hlt.1
   have ht2 := hlt.2
   have htg := zLe (ck := ck) (n := L[i].n) (now := L[i].now) hg.1 hg.2.1 hg.2.2.1 hlm (hL.2 L[i] (List.getElem_mem h1))
   have hgT : goodC most (touchF most [] ck L[i].n L[i].now).2.2.2.1 := ⟨hg.1, htg.1, htg.2.1, by have := htg.2.2; omega⟩
   have hlm1 := htg.2.2
   refine Exists.intro ⟨1, 0, most, [], ck, L[i].n, L[i].now⟩ (And.intro ⟨rfl, ⟨by kernel_rfl, by kernel_rfl⟩, hg⟩ ?_)
   refine Exists.intro ⟨2, none, most, [], L[i].n, L[i].now, true⟩ (And.intro ⟨⟨rfl, rfl⟩, zDm (by kernel_rfl), Nat.zero_le _, List.nodup_nil, hg.1⟩ ?_)
   refine ifK (fun hw => ?_) (fun hw => ?_)
   ·have hw : (dtF most [] L[i].n L[i].now).2.2 = true := hw
    have hne1 := dtF_new hw
    refine ifK (fun h => absurd (show ((touchF most [] ck L[i].n L[i].now).1 != (dtF most [] L[i].n L[i].now).1.1) = true from h) (by rw [ht1]; simp)) (fun _ => ?_)
    refine ifK (fun h => absurd (show (!((touchF most [] ck L[i].n L[i].now).2.1 == (dtF most [] L[i].n L[i].now).1.2.1)) = true from h) (by rw [ht1]; simp)) (fun _ => ?_)
    refine ifK (fun h => absurd (show ((touchF most [] ck L[i].n L[i].now).2.2.1 != (dtF most [] L[i].n L[i].now).1.2.2) = true from h) (by rw [ht1]; simp)) (fun _ => ?_)
    have hDl1 : ((dtF most [] L[i].n L[i].now).2.1).length = ((touchF most [] ck L[i].n L[i].now).2.2.2.1).length := (ht2).2.length_eq
    have hDl2 : ((dtF most [] L[i].n L[i].now).2.1).length ≤ 1000000 := by rw [(ht2).2.length_eq]; exact (hgT).2.2.2
    have hel1 : (encC ((touchF most [] ck L[i].n L[i].now).2.2.2.1)).length = ((touchF most [] ck L[i].n L[i].now).2.2.2.1).length := by unfold encC; rw [List.length_map]
    refine Exists.intro ⟨1, 0, most, (touchF most [] ck L[i].n L[i].now).2.2.2.1, (touchF most [] ck L[i].n L[i].now).2.2.2.2, c, true⟩ (And.intro ⟨⟨rfl, rfl⟩, ⟨by kernel_rfl, by kernel_rfl⟩, hgT⟩ ?_)
    refine Exists.intro ⟨2, some 4, most, (dtF most [] L[i].n L[i].now).2.1, c, 0, true⟩ (And.intro ⟨⟨rfl, rfl, rfl⟩, zAx (by kernel_rfl) (by kernel_rfl), hDl2⟩ ?_)
    refine And.intro (by kernel_rfl) ?_
    refine ifK (fun h => absurd (show (most == 0) = true from h) (by simp; omega)) (fun _ => ?_)
    refine ifK (fun h => ?_) (fun _ => ?_)
    ·exfalso
     have h : (((encC ((touchF most [] ck L[i].n L[i].now).2.2.2.1)).length : Int) != (((((dtF most [] L[i].n L[i].now).2.1).length) : Nat) : Int)) = true := h
     rw [hel1, hDl1] at h; simp at h
    refine Exists.intro ⟨1, 0, most, (touchF most [] ck L[i].n L[i].now).2.2.2.1, (touchF most [] ck L[i].n L[i].now).2.2.2.2, c, true⟩ (And.intro ⟨⟨rfl, rfl⟩, ⟨by kernel_rfl, by kernel_rfl⟩, hgT⟩ ?_)
    have hha : decide (atF ((dtF most [] L[i].n L[i].now).2.1) c ≥ 0) = hasC ((touchF most [] ck L[i].n L[i].now).2.2.2.1) c := zQe ht2 c
    refine ifK (fun h => ?_) (fun _ => ?_)
    ·exfalso
     have h : (!(hasC ((touchF most [] ck L[i].n L[i].now).2.2.2.1) c == decide (atF ((dtF most [] L[i].n L[i].now).2.1) c ≥ 0))) = true := h
     rw [hha] at h; simp at h
    refine ifK (fun h => ?_) (fun _ => ?_)
    ·exfalso
     have h : (!(hasC ((touchF most [] ck L[i].n L[i].now).2.2.2.1) c == decide (atF ((dtF most [] L[i].n L[i].now).2.1) c ≥ 0))) = true := h
     rw [hha] at h; simp at h
    refine zLn (D := (dtF most [] L[i].n L[i].now).2.1) (a := c) (fun q1 q2 => ?_) (fun k hk q1 q2 q3 => ?_)
    ·refine ifK (fun h => absurd (show decide (atF ((dtF most [] L[i].n L[i].now).2.1) c ≥ 0) = true from h) (by rw [q1]; decide)) (fun _ => ?_)
     refine ifK (fun _ => ?_) (fun h => absurd (show decide (atF ((dtF most [] L[i].n L[i].now).2.1) c < 0) = false from h) (by rw [q1]; decide))
     refine ifK (fun h => absurd (show (whenC ((touchF most [] ck L[i].n L[i].now).2.2.2.1) c != 0) = true from h) (by rw [zMs ((ht2).has c ▸ q2)]; decide)) (fun _ => ?_)
     refine ifK (fun h => absurd (show (most == 0) = true from h) (by simp; omega)) (fun _ => ?_)
     refine Exists.intro ⟨5, 0, (touchF most [] ck L[i].n L[i].now).2.2.2.1, (touchF most [] ck L[i].n L[i].now).2.2.2.2⟩ (And.intro ⟨rfl, by kernel_rfl, by kernel_rfl, (hgT).2.1, (hgT).2.2.1, (hgT).2.2.2⟩ ?_)
     refine ifK (fun h => absurd (Nat.eq_of_beq_eq_true (show (keysC ((touchF most [] ck L[i].n L[i].now).2.2.2.1)).length.beq 0 = true from h)) (zEo ht2 hne1)) (fun _ => ?_)
     refine Exists.intro ⟨2, some 4, most, (dtF most [] L[i].n L[i].now).2.1, 0, 0, true⟩ (And.intro ⟨⟨rfl, rfl, rfl, rfl⟩, zAx (by kernel_rfl) (by kernel_rfl), hDl2, fun _ => hne1⟩ ?_)
     refine Exists.intro ⟨6, 7, isortI (keysC ((touchF most [] ck L[i].n L[i].now).2.2.2.1)), keysC ((dtF most [] L[i].n L[i].now).2.1), (keysC ((touchF most [] ck L[i].n L[i].now).2.2.2.1)).length, ((dtF most [] L[i].n L[i].now).2.1).length⟩ (And.intro ⟨rfl, ⟨by kernel_rfl, by kernel_rfl⟩, ⟨(zAb _).length_eq.symm, (zCe _).symm⟩, (show (6 : Nat) ≠ 7 by decide), zCr (hgT).2.2.2⟩ ?_)
     refine ifK (fun h => absurd (show (!decide (isortI (keysC ((touchF most [] ck L[i].n L[i].now).2.2.2.1)) = keysC ((dtF most [] L[i].n L[i].now).2.1))) = true from h) (by rw [(ht2).keys]; simp)) (fun _ => ?_)
     refine zHy ⟨most, L, c, (touchF most [] ck L[i].n L[i].now).2.2.2.1, (touchF most [] ck L[i].n L[i].now).2.2.2.2, (dtF most [] L[i].n L[i].now).2.1, i, (keysC ((touchF most [] ck L[i].n L[i].now).2.2.2.1)).length⟩ (isortI (keysC ((touchF most [] ck L[i].n L[i].now).2.2.2.1))) (zAb _).length_eq (zCh (hgT).2.2.2) (rcq [0, 1, 2, 4, 6] ⟨⟨_, rfl, zAr 8 rfl⟩, ⟨_, rfl, .int _ _⟩, ⟨_, rfl, .ptr _ _ _ rfl⟩, ⟨_, rfl, .ptr _ _ _ rfl⟩, ⟨_, rfl, .int _ _⟩, ⟨_, rfl, .sl _ _ _ _ _ rfl⟩, ⟨_, rfl, .int _ _⟩, trivial⟩ ⟨⟨by decide, _, rfl, zAf _ _⟩, ⟨by decide, _, rfl, zAh rfl⟩, ⟨by decide, _, rfl, zHr rfl rfl⟩, ⟨by decide, _, rfl, zBb _⟩, bpo (zAj _), trivial⟩ .nil) (fun A f => ?_)
     exact ⟨(i + 1, (touchF most [] ck L[i].n L[i].now).2.2.2.1, (touchF most [] ck L[i].n L[i].now).2.2.2.2, (dtF most [] L[i].n L[i].now).2.1, true), ⟨h1, ⟨(hgT).2.2.1, hlm1⟩, ht2, ⟨fun _ => hne1, fun _ => rfl⟩⟩, by show L.length - (i + 1) < L.length - i; omega, rcq [0, 1, 2, 3] ⟨⟨_, rfl, zAr 8 rfl⟩, ⟨_, rfl, .int _ _⟩, ⟨_, rfl, .ptr _ _ _ rfl⟩, ⟨_, rfl, .ptr _ _ _ rfl⟩, zAc rfl (by show IntKind.i64.wrap ((i : Int) + 1) = ((i + 1 : Nat) : Int); rw [wrapN (by omega) (by omega)]; omega), trivial⟩ ⟨⟨by decide, _, rfl, zAf _ _⟩, ⟨by decide, _, rfl, zAh rfl⟩, ⟨by decide, _, rfl, zBu rfl⟩, ⟨by decide, _, rfl, zBb _⟩, trivial⟩ .nil⟩
    ·refine ifK (fun _ => ?_) (fun h => absurd (show decide (atF ((dtF most [] L[i].n L[i].now).2.1) c ≥ 0) = false from h) (by rw [q1]; simp))
     refine ifK (fun _ => ?_) (fun h => absurd (show inI (atF ((dtF most [] L[i].n L[i].now).2.1) c) (((dtF most [] L[i].n L[i].now).2.1).length) = false from h) (by rw [q1, show (((dtF most [] L[i].n L[i].now).2.1).length) = ((dtF most [] L[i].n L[i].now).2.1).length from rfl]; simp [inI]; omega))
     refine Exists.intro ((dtF most [] L[i].n L[i].now).2.1)[k].w (And.intro (by rw [q1]; exact zBl hk 1 rfl) ?_)
     have hwk : whenC ((touchF most [] ck L[i].n L[i].now).2.2.2.1) c = ((dtF most [] L[i].n L[i].now).2.1)[k].w := zMr ht2 hk q2
     refine ifK (fun h => absurd (show (whenC ((touchF most [] ck L[i].n L[i].now).2.2.2.1) c != ((dtF most [] L[i].n L[i].now).2.1)[k].w) = true from h) (by rw [hwk]; simp)) (fun _ => ?_)
     refine ifK (fun h => absurd (show decide (atF ((dtF most [] L[i].n L[i].now).2.1) c < 0) = true from h) (by rw [q1]; simp)) (fun _ => ?_)
     refine ifK (fun h => absurd (show (most == 0) = true from h) (by simp; omega)) (fun _ => ?_)
     refine Exists.intro ⟨5, 0, (touchF most [] ck L[i].n L[i].now).2.2.2.1, (touchF most [] ck L[i].n L[i].now).2.2.2.2⟩ (And.intro ⟨rfl, by kernel_rfl, by kernel_rfl, (hgT).2.1, (hgT).2.2.1, (hgT).2.2.2⟩ ?_)
     refine ifK (fun h => absurd (Nat.eq_of_beq_eq_true (show (keysC ((touchF most [] ck L[i].n L[i].now).2.2.2.1)).length.beq 0 = true from h)) (zEo ht2 hne1)) (fun _ => ?_)
     refine Exists.intro ⟨2, some 4, most, (dtF most [] L[i].n L[i].now).2.1, 0, 0, true⟩ (And.intro ⟨⟨rfl, rfl, rfl, rfl⟩, zAx (by kernel_rfl) (by kernel_rfl), hDl2, fun _ => hne1⟩ ?_)
     refine Exists.intro ⟨6, 7, isortI (keysC ((touchF most [] ck L[i].n L[i].now).2.2.2.1)), keysC ((dtF most [] L[i].n L[i].now).2.1), (keysC ((touchF most [] ck L[i].n L[i].now).2.2.2.1)).length, ((dtF most [] L[i].n L[i].now).2.1).length⟩ (And.intro ⟨rfl, ⟨by kernel_rfl, by kernel_rfl⟩, ⟨(zAb _).length_eq.symm, (zCe _).symm⟩, (show (6 : Nat) ≠ 7 by decide), zCr (hgT).2.2.2⟩ ?_)
     refine ifK (fun h => absurd (show (!decide (isortI (keysC ((touchF most [] ck L[i].n L[i].now).2.2.2.1)) = keysC ((dtF most [] L[i].n L[i].now).2.1))) = true from h) (by rw [(ht2).keys]; simp)) (fun _ => ?_)
     refine zHy ⟨most, L, c, (touchF most [] ck L[i].n L[i].now).2.2.2.1, (touchF most [] ck L[i].n L[i].now).2.2.2.2, (dtF most [] L[i].n L[i].now).2.1, i, (keysC ((touchF most [] ck L[i].n L[i].now).2.2.2.1)).length⟩ (isortI (keysC ((touchF most [] ck L[i].n L[i].now).2.2.2.1))) (zAb _).length_eq (zCh (hgT).2.2.2) (rcq [0, 1, 2, 4, 6] ⟨⟨_, rfl, zAr 8 rfl⟩, ⟨_, rfl, .int _ _⟩, ⟨_, rfl, .ptr _ _ _ rfl⟩, ⟨_, rfl, .ptr _ _ _ rfl⟩, ⟨_, rfl, .int _ _⟩, ⟨_, rfl, .sl _ _ _ _ _ rfl⟩, ⟨_, rfl, .int _ _⟩, trivial⟩ ⟨⟨by decide, _, rfl, zAf _ _⟩, ⟨by decide, _, rfl, zAh rfl⟩, ⟨by decide, _, rfl, zHr rfl rfl⟩, ⟨by decide, _, rfl, zBb _⟩, bpo (zAj _), trivial⟩ .nil) (fun A f => ?_)
     exact ⟨(i + 1, (touchF most [] ck L[i].n L[i].now).2.2.2.1, (touchF most [] ck L[i].n L[i].now).2.2.2.2, (dtF most [] L[i].n L[i].now).2.1, true), ⟨h1, ⟨(hgT).2.2.1, hlm1⟩, ht2, ⟨fun _ => hne1, fun _ => rfl⟩⟩, by show L.length - (i + 1) < L.length - i; omega, rcq [0, 1, 2, 3] ⟨⟨_, rfl, zAr 8 rfl⟩, ⟨_, rfl, .int _ _⟩, ⟨_, rfl, .ptr _ _ _ rfl⟩, ⟨_, rfl, .ptr _ _ _ rfl⟩, zAc rfl (by show IntKind.i64.wrap ((i : Int) + 1) = ((i + 1 : Nat) : Int); rw [wrapN (by omega) (by omega)]; omega), trivial⟩ ⟨⟨by decide, _, rfl, zAf _ _⟩, ⟨by decide, _, rfl, zAh rfl⟩, ⟨by decide, _, rfl, zBu rfl⟩, ⟨by decide, _, rfl, zBb _⟩, trivial⟩ .nil⟩
   ·have hw : (dtF most [] L[i].n L[i].now).2.2 = false := hw
    have hdn : (dtF most [] L[i].n L[i].now).2.1 = [] := List.length_eq_zero_iff.1 (dtF_old hw).symm
    rw [hdn] at ht2
    refine ifK (fun h => absurd (show ((touchF most [] ck L[i].n L[i].now).1 != (dtF most [] L[i].n L[i].now).1.1) = true from h) (by rw [ht1]; simp)) (fun _ => ?_)
    refine ifK (fun h => absurd (show (!((touchF most [] ck L[i].n L[i].now).2.1 == (dtF most [] L[i].n L[i].now).1.2.1)) = true from h) (by rw [ht1]; simp)) (fun _ => ?_)
    refine ifK (fun h => absurd (show ((touchF most [] ck L[i].n L[i].now).2.2.1 != (dtF most [] L[i].n L[i].now).1.2.2) = true from h) (by rw [ht1]; simp)) (fun _ => ?_)
    have hlp : (touchF most [] ck L[i].n L[i].now).2.2.2.1 = [] := (ht2).2.nil_eq.symm
    refine Exists.intro ⟨1, 0, most, (touchF most [] ck L[i].n L[i].now).2.2.2.1, (touchF most [] ck L[i].n L[i].now).2.2.2.2, c, true⟩ (And.intro ⟨⟨rfl, rfl⟩, ⟨by kernel_rfl, by kernel_rfl⟩, hgT⟩ ?_)
    refine Exists.intro ⟨2, none, most, [], c, 0, true⟩ (And.intro ⟨⟨rfl, rfl, rfl⟩, zDm (by kernel_rfl), Nat.zero_le _⟩ ?_)
    refine And.intro (by kernel_rfl) ?_
    refine ifK (fun h => absurd (show (most == 0) = true from h) (by simp; omega)) (fun _ => ?_)
    refine ifK (fun h => absurd (show ((((encC ((touchF most [] ck L[i].n L[i].now).2.2.2.1)).length : Nat) : Int) != 0) = true from h) (by rw [hlp]; exact Bool.false_ne_true)) (fun _ => ?_)
    refine Exists.intro ⟨1, 0, most, (touchF most [] ck L[i].n L[i].now).2.2.2.1, (touchF most [] ck L[i].n L[i].now).2.2.2.2, c, true⟩ (And.intro ⟨⟨rfl, rfl⟩, ⟨by kernel_rfl, by kernel_rfl⟩, hgT⟩ ?_)
    refine ifK (fun h => absurd (show (!(hasC ((touchF most [] ck L[i].n L[i].now).2.2.2.1) c == decide (atF [] c ≥ 0))) = true from h) (by rw [hlp]; exact Bool.false_ne_true)) (fun _ => ?_)
    refine ifK (fun h => absurd (show (!(hasC ((touchF most [] ck L[i].n L[i].now).2.2.2.1) c == decide (atF [] c ≥ 0))) = true from h) (by rw [hlp]; exact Bool.false_ne_true)) (fun _ => ?_)
    refine ifK (fun h => absurd (show (whenC ((touchF most [] ck L[i].n L[i].now).2.2.2.1) c != 0) = true from h) (by rw [hlp]; exact Bool.false_ne_true)) (fun _ => ?_)
    refine ifK (fun h => absurd (show (most == 0) = true from h) (by simp; omega)) (fun _ => ?_)
    refine Exists.intro ⟨4, 0, (touchF most [] ck L[i].n L[i].now).2.2.2.1, (touchF most [] ck L[i].n L[i].now).2.2.2.2⟩ (And.intro ⟨rfl, by kernel_rfl, by kernel_rfl, (hgT).2.1, (hgT).2.2.1, (hgT).2.2.2⟩ ?_)
    refine ifK (fun _ => ?_) (fun h => absurd (show (keysC ((touchF most [] ck L[i].n L[i].now).2.2.2.1)).length.beq 0 = false from h) (by rw [hlp]; exact fun h => by cases h))
    refine Exists.intro ⟨2, none, most, [], 0, 0, true⟩ (And.intro ⟨⟨rfl, rfl, rfl, rfl⟩, zDm (by kernel_rfl), Nat.zero_le _, (fun h => by cases h)⟩ ?_)
    refine LW.round (zEa tbTs9 [4] 0 _ none mixed _ _ _ ?_)
    exact ⟨(i + 1, (touchF most [] ck L[i].n L[i].now).2.2.2.1, (touchF most [] ck L[i].n L[i].now).2.2.2.2, [], false), ⟨h1, ⟨(hgT).2.2.1, hlm1⟩, ht2, ⟨(fun h => by cases h), fun h => absurd rfl h⟩⟩, by show L.length - (i + 1) < L.length - i; omega, rcq [0, 1, 2] ⟨⟨_, rfl, zAr 8 rfl⟩, ⟨_, rfl, .int _ _⟩, ⟨_, rfl, .ptr _ _ _ rfl⟩, ⟨_, rfl, .ptr _ _ _ rfl⟩, zAc rfl (by show IntKind.i64.wrap ((i : Int) + 1) = ((i + 1 : Nat) : Int); rw [wrapN (by omega) (by omega)]; omega), trivial⟩ ⟨⟨by decide, _, rfl, zAf _ _⟩, ⟨by decide, _, rfl, zAh rfl⟩, ⟨by decide, _, rfl, zQf⟩, trivial⟩ .nil⟩
 ·exact And.intro rfl (zCf (rcq [] (d := 8) (d2 := 0) (lv := []) (bs := []) (W := []) (m := 0) (df := []) trivial trivial .nil) hK)
end Go.Proofs.Ytpdeidlkeplegaa
namespace Go.Proofs.Ytpdeidlkeplegaa
open Go Go.RowKit
theorem scr_loop (most : Int) (L : List ActC) (c : Int) (hL : L.length ≤ 100000000000000 ∧ ∀ x ∈ L, -9223372036854775808 ≤ x.n ∧ x.n ≤ 9223372036854775807) (g1 : ¬ most < 1) (g2 : ¬ most > 1024) (g3 : L.length ≤ 200) {K : Ex → Fs → Prop} {s : Fs} (h0 : ∃ f, RcM Try.prog 0 0 (3 + (Try.f4.ntmps - 3)) none s (scrN most L c [] 0 0 f)) (hK : ∀ f, K (.exit 0) ⟨slots 8 [] f, heap 0 [], 0, [], []⟩) : LW Try.prog 0 0 (3 + (Try.f4.ntmps - 3)) none (loopAt Try.f4 0) s K := by
 refine zCa (scrS most L c) (fun s => L.length - s.1) (scrI most L) (0, [], 0, [], false) ⟨Nat.zero_le _, ⟨(fun c hc => by cases hc), by show ((0 : Nat) : Int) ≤ most; omega⟩, ⟨List.Pairwise.nil, .refl _⟩, by simp⟩ h0 ?_
 rintro ⟨i, l, ck, D, own⟩ f ⟨hi, ⟨hr, hlm⟩, hag, hown⟩
 cases own with
 | false =>
  have hD : D = [] := Classical.byContradiction fun h => by have := hown.2 h; cases this
  subst hD
  have hl : l = [] := hag.2.nil_eq.symm
  subst hl
  exact (scr_nil most L c hL g1 g2 g3 ck i hi hK f).mono fun x s1 h => by cases x <;> exact h
 | true => exact (scr_own most L c hL g1 g2 g3 l ck D i hi hr hlm hag (hown.1 rfl) hK f).mono fun x s1 h => by cases x <;> exact h
theorem script_fn (most : Int) (L : List ActC) (c : Int) (hL : L.length ≤ 100000000000000 ∧ ∀ x ∈ L, -9223372036854775808 ≤ x.n ∧ x.n ≤ 9223372036854775807) : ∃ r, FnS Try.prog 0 4 [.int .i64 most, trAct L, .int .i64 c] .e 0 r ∧ ∃ H k wr, r = .ret (.bool true) H k wr := by
 refine zCv mixed tbTs9 [] Try.func4 (c := bodyOf Try.f4) (by kernel_rfl) ?_
 refine ifK (fun _ => ?_) (fun g3 => ?_)
 ·exact ⟨_, _, _, rfl⟩
 have g3 : L.length ≤ 200 := by have g3 : ¬ ((L.length : Nat) : Int) > 200 := of_decide_eq_false g3; omega
 refine ifK (fun g1 => ?_) (fun g1 => ?_)
 ·refine ifK (fun _ => ?_) (fun h => absurd (show decide (most < 1) = true from g1) (by rw [show decide (most < 1) = false from h]; decide))
  exact ⟨_, _, _, rfl⟩
 have g1 : decide (most < 1) = false := g1
 refine ifK (fun g2 => ?_) (fun g2 => ?_)
 ·refine ifK (fun h => absurd (show decide (most < 1) = true from h) (by rw [g1]; decide)) (fun _ => ?_)
  refine ifK (fun _ => ?_) (fun h => absurd (show decide (most > 1024) = true from g2) (by rw [show decide (most > 1024) = false from h]; decide))
  exact ⟨_, _, _, rfl⟩
 have g2 : decide (most > 1024) = false := g2
 refine ifK (fun h => absurd (show decide (most < 1) = true from h) (by rw [g1]; decide)) (fun _ => ?_)
 refine ifK (fun h => absurd (show decide (most > 1024) = true from h) (by rw [g2]; decide)) (fun _ => ?_)
 have g1 : ¬ most < 1 := of_decide_eq_false g1
 have g2 : ¬ most > 1024 := of_decide_eq_false g2
 refine scr_loop most L c hL g1 g2 g3 ?_ (fun f => ?_)
 ·exact rcq [0, 1, 2] ⟨⟨_, rfl, zAr 8 rfl⟩, ⟨_, rfl, .int _ _⟩, ⟨_, rfl, .ptr _ _ _ rfl⟩, ⟨_, rfl, .ptr _ _ _ rfl⟩, ⟨_, rfl, .int _ _⟩, trivial⟩ ⟨⟨by decide, _, rfl, RO.map _ _ _ .nil⟩, ⟨by decide, _, rfl, zAh rfl⟩, ⟨by decide, _, rfl, zQf⟩, trivial⟩ .nil
 exact ⟨_, _, _, rfl⟩
end Go.Proofs.Ytpdeidlkeplegaa
