/- DERIVED. Texts put together: Wr9, Sb1, Lv2, Lv3. -/
import Derived.Test.YtmpaeabkdhjamaaZ12
import Derived.Test.YtmpaeabkdhjamaaZ13
import Derived.Test.YtmpaeabkdhjamaaZ17
import Derived.Test.YtmpaeabkdhjamaaZ18
set_option maxRecDepth 1000000
set_option maxHeartbeats 32000000
namespace Go.Proofs.Ytmpaeabkdhjamaa
open Go Go.RowKit
noncomputable def tbWr9 : Tb Try.prog 0 := tbOf mixed [zOw, ct_rask, ct_rput32, ct_rwrite, zOv]
theorem zOn (en : Nat) (T : List (Bl × Nat)) (a : Int) (n : ByteArray) (t c : Int) (ht : numB t 65535 = true) (hc : numB c 65535 = true) (hn : (labels (bs n)).2 = 0) :
  (∃ e, e ≠ 0 ∧ askD en T a n t c = (e, [], [], en)) ∨ ∃ u us F en', askD en T a n t c = (0, u :: us, F, en') ∧ us.length + 1 ≤ 261 ∧ 0 ≤ a ∧ a ≤ 65535 ∧ F.length ≤ 300 := by
 unfold askD
 rw [if_neg (not_not_intro hn), ht, hc, show (true && true) = true from rfl, if_pos rfl]
 by_cases he : pnE en a n ≠ 0
 ·rw [if_pos he]; exact .inl ⟨_, he, rfl⟩
 rw [if_neg he]
 obtain ⟨⟨p1, p2⟩, p3, p4, p5⟩ := zCo (Decidable.not_not.1 he)
 have hpos := ((zAv (bs n)).1 p4).1.pos
 have hl1 := zAy T a.toNat (bs n).length (bs n) 0
 have hl2 := zBd T a.toNat (bs n).length (bs n) 0
 have hne := zCj T a.toNat (bs n).length (bs n) 0 hpos
 obtain ⟨r, hr⟩ : ∃ r, packN T a.toNat (bs n).length (bs n) 0 = r := ⟨_, rfl⟩
 rw [hr] at hl1 hl2 hne ⊢
 obtain ⟨o, F⟩ := r
 cases o with
 | nil => exact absurd rfl hne
 | cons v vs => exact .inr ⟨v, vs ++ by2 t.toNat ++ by2 c.toNat, F, _, rfl, by have : vs.length + 1 ≤ (bs n).length + 2 := hl1; simp [by2]; omega, p1, p2, by have h1 : vs.length + 1 ≤ (bs n).length + 2 := hl1; have h2 : F.length ≤ vs.length + 1 := hl2; omega⟩
theorem rrecw0_fn (y : WrtY) (en : Nat) (hs : y.x.ok = true) : RpFn0 22 y.xs en (y.D en []) := by
 obtain ⟨a, x⟩ := y
 have hs : x.ok = true := hs
 have h1s : (Try.prog.types[5]).size = 1 := by kernel_rfl
 have hby : (Try.prog.types[5]).bytes = 1 := by kernel_rfl
 obtain ⟨hn, hd⟩ := RcX.ok1 hs
 have hsh : shortB x.n = true := zBq (by omega)
 unfold WrtY.D recD
 obtain ⟨n, t, c, w, d⟩ := x
 have hd : (bs d).length ≤ 100000000 := hd
 refine zBm mixed tbWr9 [5, 6] Try.func22 (c := bodyOf Try.f22) (by kernel_rfl) ?_
 refine And.intro hs ?_
 refine ifK (fun g => ?_) (fun g => ?_)
 ·have g : recC ⟨n, t, c, w, d⟩ ≠ 0 := by simpa using g
  rw [if_pos g]
  exact ⟨_, _, _, 0, 1, rfl, fun h => absurd rfl h, .inl ⟨rfl, rfl⟩⟩
 have gz : recC ⟨n, t, c, w, d⟩ = 0 := by simpa using g
 clear g
 rw [if_neg (not_not_intro gz)]
 obtain ⟨z1, z2, z3, z4, z5⟩ := zFn gz
 obtain ⟨w, rfl, hw⟩ := zCz z4
 rcases zOn en [] a n t c z2 z3 z1 with ⟨e, he, hA⟩ | ⟨u, us, F, en1, hA, hul, ha1, ha2, hFl⟩
 ·simp only [hA]
  rw [if_pos he]
  refine Exists.intro (⟨0, none, en, [], ⟨a, n, t, c⟩, e, [], [], en⟩ : RpY AskY) (And.intro ⟨rfl, (show Tr.get _ 0 = some (AObj.cells [.slice none 0 0, .int .i64 (en : Int)] _) from rfl), rfl, ⟨List.nodup_nil, fun p hp => by cases hp⟩, (Nat.zero_le _), hsh, hA⟩ ?_)
  refine ifK (fun _ => ?_) (fun g => absurd (show e = 0 by simpa using g) he)
  exact ⟨_, _, _, 0, 1, rfl, fun h => absurd rfl h, .inl ⟨rfl, rfl⟩⟩
 obtain ⟨k, rfl⟩ : ∃ k : Nat, a = (k : Int) := ⟨a.toNat, by omega⟩
 have hgd : goodT ([] ++ F) := by have := zGx (en := en) (a := (k : Int)) (n := n) (t := t) (c := c) (T := []) ⟨List.nodup_nil, fun p hp => by cases hp⟩; rw [hA] at this; exact this
 simp only [hA]
 rw [if_neg (not_not_intro rfl)]
 have hlen : (k : Int).toNat + (u :: us ++ by4 (w : Int).toNat).length + 2 = k + (us.length + 5) + 2 := by simp [by4]
 have hat : IntKind.i64.wrap (IntKind.i64.wrap ((k : Int) + ((us.length + 1 + 4 : Nat) : Int)) + 2) = ((k + (us.length + 5) + 2 : Nat) : Int) := by
  have i1 : IntKind.i64.wrap ((k : Int) + ((us.length + 1 + 4 : Nat) : Int)) = ((k + (us.length + 5) : Nat) : Int) := by rw [wrapN (by omega) (by omega)]; omega
  rw [i1, wrapN (by omega) (by omega)]; omega
 rw [hlen]
 have hle := wrD_le (en := en1) (T := [] ++ F) (a := ((k + (us.length + 5) + 2 : Nat) : Int)) (t := t) (l := bs d)
 have hez := wrD_e (en := en1) (T := [] ++ F) (a := ((k + (us.length + 5) + 2 : Nat) : Int)) (t := t) (l := bs d)
 have hld := (zCi z5).2.2.1
 have hld : (bs d).length ≤ 65535 := hld
 obtain ⟨R, hR⟩ : ∃ R, wrD en1 ([] ++ F) ((k + (us.length + 5) + 2 : Nat) : Int) t (bs d) = R := ⟨_, rfl⟩
 simp only [hR]
 rw [hR] at hle hez
 obtain ⟨e2, o2, F2, en2⟩ := R
 have hl2 : o2.length ≤ 65535 := Nat.le_trans hle hld
 have hez : e2 ≠ 0 → o2 = [] := hez
 clear hle
 cases F with
 | nil =>
  refine Exists.intro (⟨0, none, en, [], ⟨k, n, t, c⟩, 0, u :: us, [], en1⟩ : RpY AskY) (And.intro ⟨rfl, (show Tr.get _ 0 = some (AObj.cells [.slice none 0 0, .int .i64 (en : Int)] _) from rfl), rfl, ⟨List.nodup_nil, fun p hp => by cases hp⟩, (Nat.zero_le _), hsh, hA⟩ ?_)
  refine Exists.intro w (And.intro ⟨rfl, (show w < 4294967296 by omega)⟩ ?_)
  refine And.intro (by rw [h1s, hby]; simp only [Bool.and_eq_true, decide_eq_true_eq]; exact ⟨⟨⟨⟨⟨⟨rfl, rfl⟩, Nat.ble_eq_true_of_le (by simp [by2, by4] <;> omega)⟩, rfl⟩, (by first | omega | (simp <;> omega))⟩, (by first | omega | (simp <;> omega))⟩, Nat.ble_eq_true_of_le (by simp [by2, by4] <;> omega)⟩) ?_
  cases o2 with
  | nil =>
   cases F2 with
   | nil =>
    refine Exists.intro (⟨0, none, en1, [], ((k + (us.length + 5) + 2 : Nat) : Int), t, d, e2, [], [], en2⟩ : RwX) (And.intro ⟨by rw [← hat] <;> rfl, (show Tr.get _ 0 = some (AObj.cells [.slice none 0 0, .int .i64 (en1 : Int)] _) from rfl), rfl, ⟨List.nodup_nil, fun p hp => by cases hp⟩, (Nat.zero_le _), hd, (by have := hR; skip; exact this)⟩ ?_)
    refine ifK (fun h2 => ?_) (fun h2 => ?_)
    ·have h2 : e2 ≠ 0 := by simpa using h2
     rw [if_pos h2]
     exact ⟨_, _, _, 0, 1, rfl, fun h => absurd rfl h, .inl ⟨rfl, rfl⟩⟩
    have h2 : e2 = 0 := by simpa using h2
    subst h2
    rw [if_neg (not_not_intro rfl)]
    refine Exists.intro 0 (And.intro rfl ?_)
    refine Exists.intro ((by2 0).map byV) (And.intro (zAp (l := by2 0) h1s rfl) ?_)
    refine And.intro (by rw [h1s, hby]; simp only [Bool.and_eq_true, decide_eq_true_eq]; exact ⟨⟨⟨⟨⟨⟨rfl, rfl⟩, Nat.ble_eq_true_of_le (by simp [by2, by4] <;> omega)⟩, (oneB _)⟩, (by first | omega | (simp <;> omega))⟩, (by first | omega | (simp <;> omega))⟩, Nat.ble_eq_true_of_le (by simp [by2, by4] <;> omega)⟩) ?_
    have hv : Value.slice (some ⟨6, 0, none⟩) (us.length + 1 + 4 + 2) U = ovN 6 ((u :: us ++ by4 w) ++ by2 0 ++ []) := by rw [zCf 6 (by simp)]; simp [by2, by4]
    refine ⟨_, _, _, 6, 1, congrArg (fun v => Res.ret (.tuple #[v, .int .i64 0]) _ _ _) hv, fun _ => ⟨by decide, by decide, ?_⟩, .inl ⟨rfl, rfl⟩⟩
    refine (show some (AObj.cells _ _) = some (AObj.cells _ _) from congrArg (fun l => some (AObj.cells l _)) ?_)
    simp [h1s, by2, by4, List.take_of_length_le, List.take_append]
   | cons q G =>
    refine Exists.intro (⟨0, none, en1, [], ((k + (us.length + 5) + 2 : Nat) : Int), t, d, e2, [], (q :: G), en2⟩ : RwX) (And.intro ⟨by rw [← hat] <;> rfl, (show Tr.get _ 0 = some (AObj.cells [.slice none 0 0, .int .i64 (en1 : Int)] _) from rfl), rfl, ⟨List.nodup_nil, fun p hp => by cases hp⟩, (Nat.zero_le _), hd, (by have := hR; skip; exact this)⟩ ?_)
    refine ifK (fun h2 => ?_) (fun h2 => ?_)
    ·have h2 : e2 ≠ 0 := by simpa using h2
     rw [if_pos h2]
     exact ⟨_, _, _, 0, 5, rfl, fun h => absurd rfl h, .inr ⟨by simp, ⟨by decide, by decide, fun h => absurd rfl h⟩, by show some (AObj.cells _ _) = _; simp, by show some (AObj.cells _ _) = _; simp⟩⟩
    have h2 : e2 = 0 := by simpa using h2
    subst h2
    rw [if_neg (not_not_intro rfl)]
    refine Exists.intro 0 (And.intro rfl ?_)
    refine Exists.intro ((by2 0).map byV) (And.intro (zAp (l := by2 0) h1s rfl) ?_)
    refine And.intro (by rw [h1s, hby]; simp only [Bool.and_eq_true, decide_eq_true_eq]; exact ⟨⟨⟨⟨⟨⟨rfl, rfl⟩, Nat.ble_eq_true_of_le (by simp [by2, by4] <;> omega)⟩, (oneB _)⟩, (by first | omega | (simp <;> omega))⟩, (by first | omega | (simp <;> omega))⟩, Nat.ble_eq_true_of_le (by simp [by2, by4] <;> omega)⟩) ?_
    have hv : Value.slice (some ⟨7, 0, none⟩) (us.length + 1 + 4 + 2) U = ovN 7 ((u :: us ++ by4 w) ++ by2 0 ++ []) := by rw [zCf 7 (by simp)]; simp [by2, by4]
    refine ⟨_, _, _, 7, 5, congrArg (fun v => Res.ret (.tuple #[v, .int .i64 0]) _ _ _) hv, fun _ => ⟨by decide, by decide, ?_⟩, .inr ⟨by simp, ⟨by decide, by decide, fun _ => by decide⟩, by show some (AObj.cells _ _) = _; simp, by show some (AObj.cells _ _) = _; simp⟩⟩
    refine (show some (AObj.cells _ _) = some (AObj.cells _ _) from congrArg (fun l => some (AObj.cells l _)) ?_)
    simp [h1s, by2, by4, List.take_of_length_le, List.take_append]
  | cons x xs =>
   have h0 : e2 = 0 := Decidable.byContradiction fun h => by cases hez h
   subst h0
   have hxl : xs.length + 1 ≤ 65535 := hl2
   have hone : oneL ((x :: xs).map byV) = true := oneB _
   obtain ⟨z, hz⟩ : ∃ z : Int, z = ((xs.length + 1 : Nat) : Int) := ⟨_, rfl⟩
   have hz2 : z.toNat = xs.length + 1 := by omega
   cases F2 with
   | nil =>
    refine Exists.intro (⟨0, none, en1, [], ((k + (us.length + 5) + 2 : Nat) : Int), t, d, 0, (x :: xs), [], en2⟩ : RwX) (And.intro ⟨by rw [← hat] <;> rfl, (show Tr.get _ 0 = some (AObj.cells [.slice none 0 0, .int .i64 (en1 : Int)] _) from rfl), rfl, ⟨List.nodup_nil, fun p hp => by cases hp⟩, (Nat.zero_le _), hd, (by have := hR; skip; exact this)⟩ ?_)
    rw [if_neg (not_not_intro rfl)]
    refine Exists.intro z (And.intro (by rw [hz] <;> rfl) ?_)
    refine ifK (fun _ => ?_) (fun g => absurd (of_decide_eq_false g) (not_not_intro (by omega)))
    refine Exists.intro ((by2 z.toNat).map byV) (And.intro (zAp (l := by2 z.toNat) h1s rfl) ?_)
    refine And.intro (by rw [h1s, hby]; simp only [Bool.and_eq_true, decide_eq_true_eq]; exact ⟨⟨⟨⟨⟨⟨rfl, rfl⟩, Nat.ble_eq_true_of_le (by simp [by2, by4] <;> omega)⟩, (oneB _)⟩, (by first | omega | (simp <;> omega))⟩, (by first | omega | (simp <;> omega))⟩, Nat.ble_eq_true_of_le (by simp [by2, by4] <;> omega)⟩) ?_
    refine Exists.intro ((x :: xs).map byV) (And.intro (zAp (l := x :: xs) h1s rfl) ?_)
    refine And.intro (by rw [h1s, hby]; simp only [Bool.and_eq_true, decide_eq_true_eq]; exact ⟨⟨⟨⟨⟨⟨rfl, rfl⟩, Nat.ble_eq_true_of_le (by simp [by2, by4] <;> omega)⟩, hone⟩, (by first | omega | (simp <;> omega))⟩, (by first | omega | (simp <;> omega))⟩, Nat.ble_eq_true_of_le (by simp [by2, by4] <;> omega)⟩) ?_
    have hv : Value.slice (some ⟨8, 0, none⟩) (us.length + 1 + 4 + 2 + (xs.length + 1)) U = ovN 8 ((u :: us ++ by4 w) ++ by2 (xs.length + 1) ++ (x :: xs)) := by rw [zCf 8 (by simp)]; simp [by2, by4]; try omega
    refine ⟨_, _, _, 8, 1, congrArg (fun v => Res.ret (.tuple #[v, .int .i64 0]) _ _ _) hv, fun _ => ⟨by decide, by decide, ?_⟩, .inl ⟨rfl, rfl⟩⟩
    refine (show some (AObj.cells _ _) = some (AObj.cells _ _) from congrArg (fun l => some (AObj.cells l _)) ?_)
    simp [h1s, by2, by4, List.take_of_length_le, List.take_append, hz2]
   | cons q G =>
    refine Exists.intro (⟨0, none, en1, [], ((k + (us.length + 5) + 2 : Nat) : Int), t, d, 0, (x :: xs), (q :: G), en2⟩ : RwX) (And.intro ⟨by rw [← hat] <;> rfl, (show Tr.get _ 0 = some (AObj.cells [.slice none 0 0, .int .i64 (en1 : Int)] _) from rfl), rfl, ⟨List.nodup_nil, fun p hp => by cases hp⟩, (Nat.zero_le _), hd, (by have := hR; skip; exact this)⟩ ?_)
    rw [if_neg (not_not_intro rfl)]
    refine Exists.intro z (And.intro (by rw [hz] <;> rfl) ?_)
    refine ifK (fun _ => ?_) (fun g => absurd (of_decide_eq_false g) (not_not_intro (by omega)))
    refine And.intro (by rw [h1s, hby]; simp only [Bool.and_eq_true, decide_eq_true_eq]; exact ⟨⟨⟨⟨⟨⟨rfl, rfl⟩, Nat.ble_eq_true_of_le (by simp [by2, by4] <;> omega)⟩, rfl⟩, (by first | omega | (simp <;> omega))⟩, (by first | omega | (simp <;> omega))⟩, Nat.ble_eq_true_of_le (by simp [by2, by4] <;> omega)⟩) ?_
    refine Exists.intro ((x :: xs).map byV) (And.intro (zAp (l := x :: xs) h1s rfl) ?_)
    refine And.intro (by rw [h1s, hby]; simp only [Bool.and_eq_true, decide_eq_true_eq]; exact ⟨⟨⟨⟨⟨⟨rfl, rfl⟩, Nat.ble_eq_true_of_le (by simp [by2, by4] <;> omega)⟩, hone⟩, (by first | omega | (simp <;> omega))⟩, (by first | omega | (simp <;> omega))⟩, Nat.ble_eq_true_of_le (by simp [by2, by4] <;> omega)⟩) ?_
    have hv : Value.slice (some ⟨9, 0, none⟩) (us.length + 1 + 4 + 2 + (xs.length + 1)) U = ovN 9 ((u :: us ++ by4 w) ++ by2 (xs.length + 1) ++ (x :: xs)) := by rw [zCf 9 (by simp)]; simp [by2, by4]; try omega
    refine ⟨_, _, _, 9, 6, congrArg (fun v => Res.ret (.tuple #[v, .int .i64 0]) _ _ _) hv, fun _ => ⟨by decide, by decide, ?_⟩, .inr ⟨by simp, ⟨by decide, by decide, fun _ => by decide⟩, by show some (AObj.cells _ _) = _; simp, by show some (AObj.cells _ _) = _; simp⟩⟩
    refine (show some (AObj.cells _ _) = some (AObj.cells _ _) from congrArg (fun l => some (AObj.cells l _)) ?_)
    simp [h1s, by2, by4, List.take_of_length_le, List.take_append, hz2]
 | cons p F =>
  refine Exists.intro (⟨0, none, en, [], ⟨k, n, t, c⟩, 0, u :: us, (p :: F), en1⟩ : RpY AskY) (And.intro ⟨rfl, (show Tr.get _ 0 = some (AObj.cells [.slice none 0 0, .int .i64 (en : Int)] _) from rfl), rfl, ⟨List.nodup_nil, fun p hp => by cases hp⟩, (Nat.zero_le _), hsh, hA⟩ ?_)
  refine Exists.intro w (And.intro ⟨rfl, (show w < 4294967296 by omega)⟩ ?_)
  refine And.intro (by rw [h1s, hby]; simp only [Bool.and_eq_true, decide_eq_true_eq]; exact ⟨⟨⟨⟨⟨⟨rfl, rfl⟩, Nat.ble_eq_true_of_le (by simp [by2, by4] <;> omega)⟩, rfl⟩, (by first | omega | (simp <;> omega))⟩, (by first | omega | (simp <;> omega))⟩, Nat.ble_eq_true_of_le (by simp [by2, by4] <;> omega)⟩) ?_
  cases o2 with
  | nil =>
   cases F2 with
   | nil =>
    refine Exists.intro (⟨0, some 3, en1, (p :: F), ((k + (us.length + 5) + 2 : Nat) : Int), t, d, e2, [], [], en2⟩ : RwX) (And.intro ⟨by rw [← hat] <;> rfl, (show Tr.get _ 0 = some (AObj.cells [.slice (some ⟨3, 0, none⟩) (p :: F).length U, .int .i64 (en1 : Int)] _) from rfl), ⟨(show Tr.get _ 3 = some (AObj.cells ((p :: F).flatMap layT.g) _) from rfl), by simp⟩, hgd, (show List.length (p :: F) ≤ 900000000 by simp at hFl ⊢; omega), hd, hR⟩ ?_)
    refine ifK (fun h2 => ?_) (fun h2 => ?_)
    ·have h2 : e2 ≠ 0 := by simpa using h2
     rw [if_pos h2]
     exact ⟨_, _, _, 0, 3, rfl, fun h => absurd rfl h, .inr ⟨by simp, ⟨by decide, by decide, fun h => absurd rfl h⟩, by show some (AObj.cells _ _) = _; simp, by show some (AObj.cells _ _) = _; simp⟩⟩
    have h2 : e2 = 0 := by simpa using h2
    subst h2
    rw [if_neg (not_not_intro rfl)]
    refine Exists.intro 0 (And.intro rfl ?_)
    refine Exists.intro ((by2 0).map byV) (And.intro (zAp (l := by2 0) h1s rfl) ?_)
    refine And.intro (by rw [h1s, hby]; simp only [Bool.and_eq_true, decide_eq_true_eq]; exact ⟨⟨⟨⟨⟨⟨rfl, rfl⟩, Nat.ble_eq_true_of_le (by simp [by2, by4] <;> omega)⟩, (oneB _)⟩, (by first | omega | (simp <;> omega))⟩, (by first | omega | (simp <;> omega))⟩, Nat.ble_eq_true_of_le (by simp [by2, by4] <;> omega)⟩) ?_
    have hv : Value.slice (some ⟨7, 0, none⟩) (us.length + 1 + 4 + 2) U = ovN 7 ((u :: us ++ by4 w) ++ by2 0 ++ []) := by rw [zCf 7 (by simp)]; simp [by2, by4]
    refine ⟨_, _, _, 7, 3, congrArg (fun v => Res.ret (.tuple #[v, .int .i64 0]) _ _ _) hv, fun _ => ⟨by decide, by decide, ?_⟩, .inr ⟨by simp, ⟨by decide, by decide, fun _ => by decide⟩, by show some (AObj.cells _ _) = _; simp, by show some (AObj.cells _ _) = _; simp⟩⟩
    refine (show some (AObj.cells _ _) = some (AObj.cells _ _) from congrArg (fun l => some (AObj.cells l _)) ?_)
    simp [h1s, by2, by4, List.take_of_length_le, List.take_append]
   | cons q G =>
    refine Exists.intro (⟨0, some 3, en1, (p :: F), ((k + (us.length + 5) + 2 : Nat) : Int), t, d, e2, [], (q :: G), en2⟩ : RwX) (And.intro ⟨by rw [← hat] <;> rfl, (show Tr.get _ 0 = some (AObj.cells [.slice (some ⟨3, 0, none⟩) (p :: F).length U, .int .i64 (en1 : Int)] _) from rfl), ⟨(show Tr.get _ 3 = some (AObj.cells ((p :: F).flatMap layT.g) _) from rfl), by simp⟩, hgd, (show List.length (p :: F) ≤ 900000000 by simp at hFl ⊢; omega), hd, hR⟩ ?_)
    refine ifK (fun h2 => ?_) (fun h2 => ?_)
    ·have h2 : e2 ≠ 0 := by simpa using h2
     rw [if_pos h2]
     exact ⟨_, _, _, 0, 6, rfl, fun h => absurd rfl h, .inr ⟨by simp, ⟨by decide, by decide, fun h => absurd rfl h⟩, by show some (AObj.cells _ _) = _; simp, by show some (AObj.cells _ _) = _; simp⟩⟩
    have h2 : e2 = 0 := by simpa using h2
    subst h2
    rw [if_neg (not_not_intro rfl)]
    refine Exists.intro 0 (And.intro rfl ?_)
    refine And.intro (by rw [h1s, hby]; simp only [Bool.and_eq_true, decide_eq_true_eq]; exact ⟨⟨⟨⟨⟨⟨rfl, rfl⟩, Nat.ble_eq_true_of_le (by simp [by2, by4] <;> omega)⟩, rfl⟩, (by first | omega | (simp <;> omega))⟩, (by first | omega | (simp <;> omega))⟩, Nat.ble_eq_true_of_le (by simp [by2, by4] <;> omega)⟩) ?_
    have hv : Value.slice (some ⟨8, 0, none⟩) (us.length + 1 + 4 + 2) U = ovN 8 ((u :: us ++ by4 w) ++ by2 0 ++ []) := by rw [zCf 8 (by simp)]; simp [by2, by4]
    refine ⟨_, _, _, 8, 6, congrArg (fun v => Res.ret (.tuple #[v, .int .i64 0]) _ _ _) hv, fun _ => ⟨by decide, by decide, ?_⟩, .inr ⟨by simp, ⟨by decide, by decide, fun _ => by decide⟩, by show some (AObj.cells _ _) = _; simp, by show some (AObj.cells _ _) = _; simp⟩⟩
    refine (show some (AObj.cells _ _) = some (AObj.cells _ _) from congrArg (fun l => some (AObj.cells l _)) ?_)
    simp [h1s, by2, by4, List.take_of_length_le, List.take_append]
  | cons x xs =>
   have h0 : e2 = 0 := Decidable.byContradiction fun h => by cases hez h
   subst h0
   have hxl : xs.length + 1 ≤ 65535 := hl2
   have hone : oneL ((x :: xs).map byV) = true := oneB _
   obtain ⟨z, hz⟩ : ∃ z : Int, z = ((xs.length + 1 : Nat) : Int) := ⟨_, rfl⟩
   have hz2 : z.toNat = xs.length + 1 := by omega
   cases F2 with
   | nil =>
    refine Exists.intro (⟨0, some 3, en1, (p :: F), ((k + (us.length + 5) + 2 : Nat) : Int), t, d, 0, (x :: xs), [], en2⟩ : RwX) (And.intro ⟨by rw [← hat] <;> rfl, (show Tr.get _ 0 = some (AObj.cells [.slice (some ⟨3, 0, none⟩) (p :: F).length U, .int .i64 (en1 : Int)] _) from rfl), ⟨(show Tr.get _ 3 = some (AObj.cells ((p :: F).flatMap layT.g) _) from rfl), by simp⟩, hgd, (show List.length (p :: F) ≤ 900000000 by simp at hFl ⊢; omega), hd, hR⟩ ?_)
    rw [if_neg (not_not_intro rfl)]
    refine Exists.intro z (And.intro (by rw [hz] <;> rfl) ?_)
    refine ifK (fun _ => ?_) (fun g => absurd (of_decide_eq_false g) (not_not_intro (by omega)))
    refine And.intro (by rw [h1s, hby]; simp only [Bool.and_eq_true, decide_eq_true_eq]; exact ⟨⟨⟨⟨⟨⟨rfl, rfl⟩, Nat.ble_eq_true_of_le (by simp [by2, by4] <;> omega)⟩, rfl⟩, (by first | omega | (simp <;> omega))⟩, (by first | omega | (simp <;> omega))⟩, Nat.ble_eq_true_of_le (by simp [by2, by4] <;> omega)⟩) ?_
    refine Exists.intro ((x :: xs).map byV) (And.intro (zAp (l := x :: xs) h1s rfl) ?_)
    refine And.intro (by rw [h1s, hby]; simp only [Bool.and_eq_true, decide_eq_true_eq]; exact ⟨⟨⟨⟨⟨⟨rfl, rfl⟩, Nat.ble_eq_true_of_le (by simp [by2, by4] <;> omega)⟩, hone⟩, (by first | omega | (simp <;> omega))⟩, (by first | omega | (simp <;> omega))⟩, Nat.ble_eq_true_of_le (by simp [by2, by4] <;> omega)⟩) ?_
    have hv : Value.slice (some ⟨9, 0, none⟩) (us.length + 1 + 4 + 2 + (xs.length + 1)) U = ovN 9 ((u :: us ++ by4 w) ++ by2 (xs.length + 1) ++ (x :: xs)) := by rw [zCf 9 (by simp)]; simp [by2, by4]; try omega
    refine ⟨_, _, _, 9, 3, congrArg (fun v => Res.ret (.tuple #[v, .int .i64 0]) _ _ _) hv, fun _ => ⟨by decide, by decide, ?_⟩, .inr ⟨by simp, ⟨by decide, by decide, fun _ => by decide⟩, by show some (AObj.cells _ _) = _; simp, by show some (AObj.cells _ _) = _; simp⟩⟩
    refine (show some (AObj.cells _ _) = some (AObj.cells _ _) from congrArg (fun l => some (AObj.cells l _)) ?_)
    simp [h1s, by2, by4, List.take_of_length_le, List.take_append, hz2]
   | cons q G =>
    refine Exists.intro (⟨0, some 3, en1, (p :: F), ((k + (us.length + 5) + 2 : Nat) : Int), t, d, 0, (x :: xs), (q :: G), en2⟩ : RwX) (And.intro ⟨by rw [← hat] <;> rfl, (show Tr.get _ 0 = some (AObj.cells [.slice (some ⟨3, 0, none⟩) (p :: F).length U, .int .i64 (en1 : Int)] _) from rfl), ⟨(show Tr.get _ 3 = some (AObj.cells ((p :: F).flatMap layT.g) _) from rfl), by simp⟩, hgd, (show List.length (p :: F) ≤ 900000000 by simp at hFl ⊢; omega), hd, hR⟩ ?_)
    rw [if_neg (not_not_intro rfl)]
    refine Exists.intro z (And.intro (by rw [hz] <;> rfl) ?_)
    refine ifK (fun _ => ?_) (fun g => absurd (of_decide_eq_false g) (not_not_intro (by omega)))
    refine And.intro (by rw [h1s, hby]; simp only [Bool.and_eq_true, decide_eq_true_eq]; exact ⟨⟨⟨⟨⟨⟨rfl, rfl⟩, Nat.ble_eq_true_of_le (by simp [by2, by4] <;> omega)⟩, rfl⟩, (by first | omega | (simp <;> omega))⟩, (by first | omega | (simp <;> omega))⟩, Nat.ble_eq_true_of_le (by simp [by2, by4] <;> omega)⟩) ?_
    refine Exists.intro ((x :: xs).map byV) (And.intro (zAp (l := x :: xs) h1s rfl) ?_)
    refine And.intro (by rw [h1s, hby]; simp only [Bool.and_eq_true, decide_eq_true_eq]; exact ⟨⟨⟨⟨⟨⟨rfl, rfl⟩, Nat.ble_eq_true_of_le (by simp [by2, by4] <;> omega)⟩, hone⟩, (by first | omega | (simp <;> omega))⟩, (by first | omega | (simp <;> omega))⟩, Nat.ble_eq_true_of_le (by simp [by2, by4] <;> omega)⟩) ?_
    have hv : Value.slice (some ⟨10, 0, none⟩) (us.length + 1 + 4 + 2 + (xs.length + 1)) U = ovN 10 ((u :: us ++ by4 w) ++ by2 (xs.length + 1) ++ (x :: xs)) := by rw [zCf 10 (by simp)]; simp [by2, by4]; try omega
    refine ⟨_, _, _, 10, 7, congrArg (fun v => Res.ret (.tuple #[v, .int .i64 0]) _ _ _) hv, fun _ => ⟨by decide, by decide, ?_⟩, .inr ⟨by simp, ⟨by decide, by decide, fun _ => by decide⟩, by show some (AObj.cells _ _) = _; simp, by show some (AObj.cells _ _) = _; simp⟩⟩
    refine (show some (AObj.cells _ _) = some (AObj.cells _ _) from congrArg (fun l => some (AObj.cells l _)) ?_)
    simp [h1s, by2, by4, List.take_of_length_le, List.take_append, hz2]
theorem rrecw1_fn (y : WrtY) (en : Nat) (T : List (Bl × Nat)) (hT : goodT T) (hT0 : T ≠ []) (hTl : T.length ≤ 800000000) (hs : y.x.ok = true) : RpFn1 22 y.xs en T (y.D en T) := by
 obtain ⟨a, x⟩ := y
 have hs : x.ok = true := hs
 have h1s : (Try.prog.types[5]).size = 1 := by kernel_rfl
 have hby : (Try.prog.types[5]).bytes = 1 := by kernel_rfl
 obtain ⟨hn, hd⟩ := RcX.ok1 hs
 have hsh : shortB x.n = true := zBq (by omega)
 unfold WrtY.D recD
 obtain ⟨n, t, c, w, d⟩ := x
 have hd : (bs d).length ≤ 100000000 := hd
 refine zBm mixed tbWr9 [6, 7] Try.func22 (c := bodyOf Try.f22) (by kernel_rfl) ?_
 refine And.intro hs ?_
 refine ifK (fun g => ?_) (fun g => ?_)
 ·have g : recC ⟨n, t, c, w, d⟩ ≠ 0 := by simpa using g
  rw [if_pos g]
  exact ⟨_, _, _, 0, 1, rfl, fun h => absurd rfl h, .inl ⟨rfl, rfl⟩, by show some (AObj.cells _ _) = _; simp, by show some (AObj.cells _ _) = _; simp⟩
 have gz : recC ⟨n, t, c, w, d⟩ = 0 := by simpa using g
 clear g
 rw [if_neg (not_not_intro gz)]
 obtain ⟨z1, z2, z3, z4, z5⟩ := zFn gz
 obtain ⟨w, rfl, hw⟩ := zCz z4
 rcases zOn en T a n t c z2 z3 z1 with ⟨e, he, hA⟩ | ⟨u, us, F, en1, hA, hul, ha1, ha2, hFl⟩
 ·simp only [hA]
  rw [if_pos he]
  refine Exists.intro (⟨0, some 1, en, T, ⟨a, n, t, c⟩, e, [], [], en⟩ : RpY AskY) (And.intro ⟨rfl, (show Tr.get _ 0 = some (AObj.cells [.slice (some ⟨1, 0, none⟩) T.length U, .int .i64 (en : Int)] _) from rfl), ⟨(show Tr.get _ 1 = some (AObj.cells (T.flatMap layT.g) _) from rfl), hT0⟩, hT, (Nat.le_trans hTl (by decide)), hsh, hA⟩ ?_)
  refine ifK (fun _ => ?_) (fun g => absurd (show e = 0 by simpa using g) he)
  exact ⟨_, _, _, 0, 1, rfl, fun h => absurd rfl h, .inl ⟨rfl, rfl⟩, by show some (AObj.cells _ _) = _; simp, by show some (AObj.cells _ _) = _; simp⟩
 obtain ⟨k, rfl⟩ : ∃ k : Nat, a = (k : Int) := ⟨a.toNat, by omega⟩
 have hgd : goodT (T ++ F) := by have := zGx (en := en) (a := (k : Int)) (n := n) (t := t) (c := c) (T := T) hT; rw [hA] at this; exact this
 simp only [hA]
 rw [if_neg (not_not_intro rfl)]
 have hlen : (k : Int).toNat + (u :: us ++ by4 (w : Int).toNat).length + 2 = k + (us.length + 5) + 2 := by simp [by4]
 have hat : IntKind.i64.wrap (IntKind.i64.wrap ((k : Int) + ((us.length + 1 + 4 : Nat) : Int)) + 2) = ((k + (us.length + 5) + 2 : Nat) : Int) := by
  have i1 : IntKind.i64.wrap ((k : Int) + ((us.length + 1 + 4 : Nat) : Int)) = ((k + (us.length + 5) : Nat) : Int) := by rw [wrapN (by omega) (by omega)]; omega
  rw [i1, wrapN (by omega) (by omega)]; omega
 rw [hlen]
 have hle := wrD_le (en := en1) (T := T ++ F) (a := ((k + (us.length + 5) + 2 : Nat) : Int)) (t := t) (l := bs d)
 have hez := wrD_e (en := en1) (T := T ++ F) (a := ((k + (us.length + 5) + 2 : Nat) : Int)) (t := t) (l := bs d)
 have hld := (zCi z5).2.2.1
 have hld : (bs d).length ≤ 65535 := hld
 obtain ⟨R, hR⟩ : ∃ R, wrD en1 (T ++ F) ((k + (us.length + 5) + 2 : Nat) : Int) t (bs d) = R := ⟨_, rfl⟩
 simp only [hR]
 rw [hR] at hle hez
 obtain ⟨e2, o2, F2, en2⟩ := R
 have hl2 : o2.length ≤ 65535 := Nat.le_trans hle hld
 have hez : e2 ≠ 0 → o2 = [] := hez
 clear hle
 cases F with
 | nil =>
  refine Exists.intro (⟨0, some 1, en, T, ⟨k, n, t, c⟩, 0, u :: us, [], en1⟩ : RpY AskY) (And.intro ⟨rfl, (show Tr.get _ 0 = some (AObj.cells [.slice (some ⟨1, 0, none⟩) T.length U, .int .i64 (en : Int)] _) from rfl), ⟨(show Tr.get _ 1 = some (AObj.cells (T.flatMap layT.g) _) from rfl), hT0⟩, hT, (Nat.le_trans hTl (by decide)), hsh, hA⟩ ?_)
  refine Exists.intro w (And.intro ⟨rfl, (show w < 4294967296 by omega)⟩ ?_)
  refine And.intro (by rw [h1s, hby]; simp only [Bool.and_eq_true, decide_eq_true_eq]; exact ⟨⟨⟨⟨⟨⟨rfl, rfl⟩, Nat.ble_eq_true_of_le (by simp [by2, by4] <;> omega)⟩, rfl⟩, (by first | omega | (simp <;> omega))⟩, (by first | omega | (simp <;> omega))⟩, Nat.ble_eq_true_of_le (by simp [by2, by4] <;> omega)⟩) ?_
  cases o2 with
  | nil =>
   cases F2 with
   | nil =>
    refine Exists.intro (⟨0, some 1, en1, T, ((k + (us.length + 5) + 2 : Nat) : Int), t, d, e2, [], [], en2⟩ : RwX) (And.intro ⟨by rw [← hat] <;> rfl, (show Tr.get _ 0 = some (AObj.cells [.slice (some ⟨1, 0, none⟩) T.length U, .int .i64 (en1 : Int)] _) from rfl), ⟨(show Tr.get _ 1 = some (AObj.cells (T.flatMap layT.g) _) from rfl), hT0⟩, hT, (Nat.le_trans hTl (by decide)), hd, (by have := hR; rw [List.append_nil] at this; exact this)⟩ ?_)
    refine ifK (fun h2 => ?_) (fun h2 => ?_)
    ·have h2 : e2 ≠ 0 := by simpa using h2
     rw [if_pos h2]
     exact ⟨_, _, _, 0, 1, rfl, fun h => absurd rfl h, .inl ⟨rfl, rfl⟩, by show some (AObj.cells _ _) = _; simp, by show some (AObj.cells _ _) = _; simp⟩
    have h2 : e2 = 0 := by simpa using h2
    subst h2
    rw [if_neg (not_not_intro rfl)]
    refine Exists.intro 0 (And.intro rfl ?_)
    refine Exists.intro ((by2 0).map byV) (And.intro (zAp (l := by2 0) h1s rfl) ?_)
    refine And.intro (by rw [h1s, hby]; simp only [Bool.and_eq_true, decide_eq_true_eq]; exact ⟨⟨⟨⟨⟨⟨rfl, rfl⟩, Nat.ble_eq_true_of_le (by simp [by2, by4] <;> omega)⟩, (oneB _)⟩, (by first | omega | (simp <;> omega))⟩, (by first | omega | (simp <;> omega))⟩, Nat.ble_eq_true_of_le (by simp [by2, by4] <;> omega)⟩) ?_
    have hv : Value.slice (some ⟨7, 0, none⟩) (us.length + 1 + 4 + 2) U = ovN 7 ((u :: us ++ by4 w) ++ by2 0 ++ []) := by rw [zCf 7 (by simp)]; simp [by2, by4]
    refine ⟨_, _, _, 7, 1, congrArg (fun v => Res.ret (.tuple #[v, .int .i64 0]) _ _ _) hv, fun _ => ⟨by decide, by decide, ?_⟩, .inl ⟨rfl, rfl⟩, by show some (AObj.cells _ _) = _; simp, by show some (AObj.cells _ _) = _; simp⟩
    refine (show some (AObj.cells _ _) = some (AObj.cells _ _) from congrArg (fun l => some (AObj.cells l _)) ?_)
    simp [h1s, by2, by4, List.take_of_length_le, List.take_append]
   | cons q G =>
    refine Exists.intro (⟨0, some 1, en1, T, ((k + (us.length + 5) + 2 : Nat) : Int), t, d, e2, [], (q :: G), en2⟩ : RwX) (And.intro ⟨by rw [← hat] <;> rfl, (show Tr.get _ 0 = some (AObj.cells [.slice (some ⟨1, 0, none⟩) T.length U, .int .i64 (en1 : Int)] _) from rfl), ⟨(show Tr.get _ 1 = some (AObj.cells (T.flatMap layT.g) _) from rfl), hT0⟩, hT, (Nat.le_trans hTl (by decide)), hd, (by have := hR; rw [List.append_nil] at this; exact this)⟩ ?_)
    refine ifK (fun h2 => ?_) (fun h2 => ?_)
    ·have h2 : e2 ≠ 0 := by simpa using h2
     rw [if_pos h2]
     exact ⟨_, _, _, 0, 6, rfl, fun h => absurd rfl h, .inr ⟨by simp, by decide, by decide, fun h => absurd rfl h⟩, by show some (AObj.cells _ _) = _; simp, by show some (AObj.cells _ _) = _; simp⟩
    have h2 : e2 = 0 := by simpa using h2
    subst h2
    rw [if_neg (not_not_intro rfl)]
    refine Exists.intro 0 (And.intro rfl ?_)
    refine Exists.intro ((by2 0).map byV) (And.intro (zAp (l := by2 0) h1s rfl) ?_)
    refine And.intro (by rw [h1s, hby]; simp only [Bool.and_eq_true, decide_eq_true_eq]; exact ⟨⟨⟨⟨⟨⟨rfl, rfl⟩, Nat.ble_eq_true_of_le (by simp [by2, by4] <;> omega)⟩, (oneB _)⟩, (by first | omega | (simp <;> omega))⟩, (by first | omega | (simp <;> omega))⟩, Nat.ble_eq_true_of_le (by simp [by2, by4] <;> omega)⟩) ?_
    have hv : Value.slice (some ⟨8, 0, none⟩) (us.length + 1 + 4 + 2) U = ovN 8 ((u :: us ++ by4 w) ++ by2 0 ++ []) := by rw [zCf 8 (by simp)]; simp [by2, by4]
    refine ⟨_, _, _, 8, 6, congrArg (fun v => Res.ret (.tuple #[v, .int .i64 0]) _ _ _) hv, fun _ => ⟨by decide, by decide, ?_⟩, .inr ⟨by simp, by decide, by decide, fun _ => by decide⟩, by show some (AObj.cells _ _) = _; simp, by show some (AObj.cells _ _) = _; simp⟩
    refine (show some (AObj.cells _ _) = some (AObj.cells _ _) from congrArg (fun l => some (AObj.cells l _)) ?_)
    simp [h1s, by2, by4, List.take_of_length_le, List.take_append]
  | cons x xs =>
   have h0 : e2 = 0 := Decidable.byContradiction fun h => by cases hez h
   subst h0
   have hxl : xs.length + 1 ≤ 65535 := hl2
   have hone : oneL ((x :: xs).map byV) = true := oneB _
   obtain ⟨z, hz⟩ : ∃ z : Int, z = ((xs.length + 1 : Nat) : Int) := ⟨_, rfl⟩
   have hz2 : z.toNat = xs.length + 1 := by omega
   cases F2 with
   | nil =>
    refine Exists.intro (⟨0, some 1, en1, T, ((k + (us.length + 5) + 2 : Nat) : Int), t, d, 0, (x :: xs), [], en2⟩ : RwX) (And.intro ⟨by rw [← hat] <;> rfl, (show Tr.get _ 0 = some (AObj.cells [.slice (some ⟨1, 0, none⟩) T.length U, .int .i64 (en1 : Int)] _) from rfl), ⟨(show Tr.get _ 1 = some (AObj.cells (T.flatMap layT.g) _) from rfl), hT0⟩, hT, (Nat.le_trans hTl (by decide)), hd, (by have := hR; rw [List.append_nil] at this; exact this)⟩ ?_)
    rw [if_neg (not_not_intro rfl)]
    refine Exists.intro z (And.intro (by rw [hz] <;> rfl) ?_)
    refine ifK (fun _ => ?_) (fun g => absurd (of_decide_eq_false g) (not_not_intro (by omega)))
    refine Exists.intro ((by2 z.toNat).map byV) (And.intro (zAp (l := by2 z.toNat) h1s rfl) ?_)
    refine And.intro (by rw [h1s, hby]; simp only [Bool.and_eq_true, decide_eq_true_eq]; exact ⟨⟨⟨⟨⟨⟨rfl, rfl⟩, Nat.ble_eq_true_of_le (by simp [by2, by4] <;> omega)⟩, (oneB _)⟩, (by first | omega | (simp <;> omega))⟩, (by first | omega | (simp <;> omega))⟩, Nat.ble_eq_true_of_le (by simp [by2, by4] <;> omega)⟩) ?_
    refine Exists.intro ((x :: xs).map byV) (And.intro (zAp (l := x :: xs) h1s rfl) ?_)
    refine And.intro (by rw [h1s, hby]; simp only [Bool.and_eq_true, decide_eq_true_eq]; exact ⟨⟨⟨⟨⟨⟨rfl, rfl⟩, Nat.ble_eq_true_of_le (by simp [by2, by4] <;> omega)⟩, hone⟩, (by first | omega | (simp <;> omega))⟩, (by first | omega | (simp <;> omega))⟩, Nat.ble_eq_true_of_le (by simp [by2, by4] <;> omega)⟩) ?_
    have hv : Value.slice (some ⟨9, 0, none⟩) (us.length + 1 + 4 + 2 + (xs.length + 1)) U = ovN 9 ((u :: us ++ by4 w) ++ by2 (xs.length + 1) ++ (x :: xs)) := by rw [zCf 9 (by simp)]; simp [by2, by4]; try omega
    refine ⟨_, _, _, 9, 1, congrArg (fun v => Res.ret (.tuple #[v, .int .i64 0]) _ _ _) hv, fun _ => ⟨by decide, by decide, ?_⟩, .inl ⟨rfl, rfl⟩, by show some (AObj.cells _ _) = _; simp, by show some (AObj.cells _ _) = _; simp⟩
    refine (show some (AObj.cells _ _) = some (AObj.cells _ _) from congrArg (fun l => some (AObj.cells l _)) ?_)
    simp [h1s, by2, by4, List.take_of_length_le, List.take_append, hz2]
   | cons q G =>
    refine Exists.intro (⟨0, some 1, en1, T, ((k + (us.length + 5) + 2 : Nat) : Int), t, d, 0, (x :: xs), (q :: G), en2⟩ : RwX) (And.intro ⟨by rw [← hat] <;> rfl, (show Tr.get _ 0 = some (AObj.cells [.slice (some ⟨1, 0, none⟩) T.length U, .int .i64 (en1 : Int)] _) from rfl), ⟨(show Tr.get _ 1 = some (AObj.cells (T.flatMap layT.g) _) from rfl), hT0⟩, hT, (Nat.le_trans hTl (by decide)), hd, (by have := hR; rw [List.append_nil] at this; exact this)⟩ ?_)
    rw [if_neg (not_not_intro rfl)]
    refine Exists.intro z (And.intro (by rw [hz] <;> rfl) ?_)
    refine ifK (fun _ => ?_) (fun g => absurd (of_decide_eq_false g) (not_not_intro (by omega)))
    refine And.intro (by rw [h1s, hby]; simp only [Bool.and_eq_true, decide_eq_true_eq]; exact ⟨⟨⟨⟨⟨⟨rfl, rfl⟩, Nat.ble_eq_true_of_le (by simp [by2, by4] <;> omega)⟩, rfl⟩, (by first | omega | (simp <;> omega))⟩, (by first | omega | (simp <;> omega))⟩, Nat.ble_eq_true_of_le (by simp [by2, by4] <;> omega)⟩) ?_
    refine Exists.intro ((x :: xs).map byV) (And.intro (zAp (l := x :: xs) h1s rfl) ?_)
    refine And.intro (by rw [h1s, hby]; simp only [Bool.and_eq_true, decide_eq_true_eq]; exact ⟨⟨⟨⟨⟨⟨rfl, rfl⟩, Nat.ble_eq_true_of_le (by simp [by2, by4] <;> omega)⟩, hone⟩, (by first | omega | (simp <;> omega))⟩, (by first | omega | (simp <;> omega))⟩, Nat.ble_eq_true_of_le (by simp [by2, by4] <;> omega)⟩) ?_
    have hv : Value.slice (some ⟨10, 0, none⟩) (us.length + 1 + 4 + 2 + (xs.length + 1)) U = ovN 10 ((u :: us ++ by4 w) ++ by2 (xs.length + 1) ++ (x :: xs)) := by rw [zCf 10 (by simp)]; simp [by2, by4]; try omega
    refine ⟨_, _, _, 10, 7, congrArg (fun v => Res.ret (.tuple #[v, .int .i64 0]) _ _ _) hv, fun _ => ⟨by decide, by decide, ?_⟩, .inr ⟨by simp, by decide, by decide, fun _ => by decide⟩, by show some (AObj.cells _ _) = _; simp, by show some (AObj.cells _ _) = _; simp⟩
    refine (show some (AObj.cells _ _) = some (AObj.cells _ _) from congrArg (fun l => some (AObj.cells l _)) ?_)
    simp [h1s, by2, by4, List.take_of_length_le, List.take_append, hz2]
 | cons p F =>
  refine Exists.intro (⟨0, some 1, en, T, ⟨k, n, t, c⟩, 0, u :: us, (p :: F), en1⟩ : RpY AskY) (And.intro ⟨rfl, (show Tr.get _ 0 = some (AObj.cells [.slice (some ⟨1, 0, none⟩) T.length U, .int .i64 (en : Int)] _) from rfl), ⟨(show Tr.get _ 1 = some (AObj.cells (T.flatMap layT.g) _) from rfl), hT0⟩, hT, (Nat.le_trans hTl (by decide)), hsh, hA⟩ ?_)
  refine Exists.intro w (And.intro ⟨rfl, (show w < 4294967296 by omega)⟩ ?_)
  refine And.intro (by rw [h1s, hby]; simp only [Bool.and_eq_true, decide_eq_true_eq]; exact ⟨⟨⟨⟨⟨⟨rfl, rfl⟩, Nat.ble_eq_true_of_le (by simp [by2, by4] <;> omega)⟩, rfl⟩, (by first | omega | (simp <;> omega))⟩, (by first | omega | (simp <;> omega))⟩, Nat.ble_eq_true_of_le (by simp [by2, by4] <;> omega)⟩) ?_
  cases o2 with
  | nil =>
   cases F2 with
   | nil =>
    refine Exists.intro (⟨0, some 4, en1, (T ++ p :: F), ((k + (us.length + 5) + 2 : Nat) : Int), t, d, e2, [], [], en2⟩ : RwX) (And.intro ⟨by rw [← hat] <;> rfl, (show Tr.get _ 0 = some (AObj.cells [.slice (some ⟨4, 0, none⟩) (T ++ p :: F).length U, .int .i64 (en1 : Int)] _) from rfl), ⟨(show Tr.get _ 4 = some (AObj.cells ((T ++ p :: F).flatMap layT.g) _) from rfl), by simp⟩, hgd, (show List.length (T ++ p :: F) ≤ 900000000 by simp at hFl ⊢; omega), hd, hR⟩ ?_)
    refine ifK (fun h2 => ?_) (fun h2 => ?_)
    ·have h2 : e2 ≠ 0 := by simpa using h2
     rw [if_pos h2]
     exact ⟨_, _, _, 0, 4, rfl, fun h => absurd rfl h, .inr ⟨by simp, by decide, by decide, fun h => absurd rfl h⟩, by show some (AObj.cells _ _) = _; simp, by show some (AObj.cells _ _) = _; simp⟩
    have h2 : e2 = 0 := by simpa using h2
    subst h2
    rw [if_neg (not_not_intro rfl)]
    refine Exists.intro 0 (And.intro rfl ?_)
    refine Exists.intro ((by2 0).map byV) (And.intro (zAp (l := by2 0) h1s rfl) ?_)
    refine And.intro (by rw [h1s, hby]; simp only [Bool.and_eq_true, decide_eq_true_eq]; exact ⟨⟨⟨⟨⟨⟨rfl, rfl⟩, Nat.ble_eq_true_of_le (by simp [by2, by4] <;> omega)⟩, (oneB _)⟩, (by first | omega | (simp <;> omega))⟩, (by first | omega | (simp <;> omega))⟩, Nat.ble_eq_true_of_le (by simp [by2, by4] <;> omega)⟩) ?_
    have hv : Value.slice (some ⟨8, 0, none⟩) (us.length + 1 + 4 + 2) U = ovN 8 ((u :: us ++ by4 w) ++ by2 0 ++ []) := by rw [zCf 8 (by simp)]; simp [by2, by4]
    refine ⟨_, _, _, 8, 4, congrArg (fun v => Res.ret (.tuple #[v, .int .i64 0]) _ _ _) hv, fun _ => ⟨by decide, by decide, ?_⟩, .inr ⟨by simp, by decide, by decide, fun _ => by decide⟩, by show some (AObj.cells _ _) = _; simp, by show some (AObj.cells _ _) = _; simp⟩
    refine (show some (AObj.cells _ _) = some (AObj.cells _ _) from congrArg (fun l => some (AObj.cells l _)) ?_)
    simp [h1s, by2, by4, List.take_of_length_le, List.take_append]
   | cons q G =>
    refine Exists.intro (⟨0, some 4, en1, (T ++ p :: F), ((k + (us.length + 5) + 2 : Nat) : Int), t, d, e2, [], (q :: G), en2⟩ : RwX) (And.intro ⟨by rw [← hat] <;> rfl, (show Tr.get _ 0 = some (AObj.cells [.slice (some ⟨4, 0, none⟩) (T ++ p :: F).length U, .int .i64 (en1 : Int)] _) from rfl), ⟨(show Tr.get _ 4 = some (AObj.cells ((T ++ p :: F).flatMap layT.g) _) from rfl), by simp⟩, hgd, (show List.length (T ++ p :: F) ≤ 900000000 by simp at hFl ⊢; omega), hd, hR⟩ ?_)
    refine ifK (fun h2 => ?_) (fun h2 => ?_)
    ·have h2 : e2 ≠ 0 := by simpa using h2
     rw [if_pos h2]
     exact ⟨_, _, _, 0, 7, rfl, fun h => absurd rfl h, .inr ⟨by simp, by decide, by decide, fun h => absurd rfl h⟩, by show some (AObj.cells _ _) = _; simp, by show some (AObj.cells _ _) = _; simp⟩
    have h2 : e2 = 0 := by simpa using h2
    subst h2
    rw [if_neg (not_not_intro rfl)]
    refine Exists.intro 0 (And.intro rfl ?_)
    refine And.intro (by rw [h1s, hby]; simp only [Bool.and_eq_true, decide_eq_true_eq]; exact ⟨⟨⟨⟨⟨⟨rfl, rfl⟩, Nat.ble_eq_true_of_le (by simp [by2, by4] <;> omega)⟩, rfl⟩, (by first | omega | (simp <;> omega))⟩, (by first | omega | (simp <;> omega))⟩, Nat.ble_eq_true_of_le (by simp [by2, by4] <;> omega)⟩) ?_
    have hv : Value.slice (some ⟨9, 0, none⟩) (us.length + 1 + 4 + 2) U = ovN 9 ((u :: us ++ by4 w) ++ by2 0 ++ []) := by rw [zCf 9 (by simp)]; simp [by2, by4]
    refine ⟨_, _, _, 9, 7, congrArg (fun v => Res.ret (.tuple #[v, .int .i64 0]) _ _ _) hv, fun _ => ⟨by decide, by decide, ?_⟩, .inr ⟨by simp, by decide, by decide, fun _ => by decide⟩, by show some (AObj.cells _ _) = _; simp, by show some (AObj.cells _ _) = _; simp⟩
    refine (show some (AObj.cells _ _) = some (AObj.cells _ _) from congrArg (fun l => some (AObj.cells l _)) ?_)
    simp [h1s, by2, by4, List.take_of_length_le, List.take_append]
  | cons x xs =>
   have h0 : e2 = 0 := Decidable.byContradiction fun h => by cases hez h
   subst h0
   have hxl : xs.length + 1 ≤ 65535 := hl2
   have hone : oneL ((x :: xs).map byV) = true := oneB _
   obtain ⟨z, hz⟩ : ∃ z : Int, z = ((xs.length + 1 : Nat) : Int) := ⟨_, rfl⟩
   have hz2 : z.toNat = xs.length + 1 := by omega
   cases F2 with
   | nil =>
    refine Exists.intro (⟨0, some 4, en1, (T ++ p :: F), ((k + (us.length + 5) + 2 : Nat) : Int), t, d, 0, (x :: xs), [], en2⟩ : RwX) (And.intro ⟨by rw [← hat] <;> rfl, (show Tr.get _ 0 = some (AObj.cells [.slice (some ⟨4, 0, none⟩) (T ++ p :: F).length U, .int .i64 (en1 : Int)] _) from rfl), ⟨(show Tr.get _ 4 = some (AObj.cells ((T ++ p :: F).flatMap layT.g) _) from rfl), by simp⟩, hgd, (show List.length (T ++ p :: F) ≤ 900000000 by simp at hFl ⊢; omega), hd, hR⟩ ?_)
    rw [if_neg (not_not_intro rfl)]
    refine Exists.intro z (And.intro (by rw [hz] <;> rfl) ?_)
    refine ifK (fun _ => ?_) (fun g => absurd (of_decide_eq_false g) (not_not_intro (by omega)))
    refine And.intro (by rw [h1s, hby]; simp only [Bool.and_eq_true, decide_eq_true_eq]; exact ⟨⟨⟨⟨⟨⟨rfl, rfl⟩, Nat.ble_eq_true_of_le (by simp [by2, by4] <;> omega)⟩, rfl⟩, (by first | omega | (simp <;> omega))⟩, (by first | omega | (simp <;> omega))⟩, Nat.ble_eq_true_of_le (by simp [by2, by4] <;> omega)⟩) ?_
    refine Exists.intro ((x :: xs).map byV) (And.intro (zAp (l := x :: xs) h1s rfl) ?_)
    refine And.intro (by rw [h1s, hby]; simp only [Bool.and_eq_true, decide_eq_true_eq]; exact ⟨⟨⟨⟨⟨⟨rfl, rfl⟩, Nat.ble_eq_true_of_le (by simp [by2, by4] <;> omega)⟩, hone⟩, (by first | omega | (simp <;> omega))⟩, (by first | omega | (simp <;> omega))⟩, Nat.ble_eq_true_of_le (by simp [by2, by4] <;> omega)⟩) ?_
    have hv : Value.slice (some ⟨10, 0, none⟩) (us.length + 1 + 4 + 2 + (xs.length + 1)) U = ovN 10 ((u :: us ++ by4 w) ++ by2 (xs.length + 1) ++ (x :: xs)) := by rw [zCf 10 (by simp)]; simp [by2, by4]; try omega
    refine ⟨_, _, _, 10, 4, congrArg (fun v => Res.ret (.tuple #[v, .int .i64 0]) _ _ _) hv, fun _ => ⟨by decide, by decide, ?_⟩, .inr ⟨by simp, by decide, by decide, fun _ => by decide⟩, by show some (AObj.cells _ _) = _; simp, by show some (AObj.cells _ _) = _; simp⟩
    refine (show some (AObj.cells _ _) = some (AObj.cells _ _) from congrArg (fun l => some (AObj.cells l _)) ?_)
    simp [h1s, by2, by4, List.take_of_length_le, List.take_append, hz2]
   | cons q G =>
    refine Exists.intro (⟨0, some 4, en1, (T ++ p :: F), ((k + (us.length + 5) + 2 : Nat) : Int), t, d, 0, (x :: xs), (q :: G), en2⟩ : RwX) (And.intro ⟨by rw [← hat] <;> rfl, (show Tr.get _ 0 = some (AObj.cells [.slice (some ⟨4, 0, none⟩) (T ++ p :: F).length U, .int .i64 (en1 : Int)] _) from rfl), ⟨(show Tr.get _ 4 = some (AObj.cells ((T ++ p :: F).flatMap layT.g) _) from rfl), by simp⟩, hgd, (show List.length (T ++ p :: F) ≤ 900000000 by simp at hFl ⊢; omega), hd, hR⟩ ?_)
    rw [if_neg (not_not_intro rfl)]
    refine Exists.intro z (And.intro (by rw [hz] <;> rfl) ?_)
    refine ifK (fun _ => ?_) (fun g => absurd (of_decide_eq_false g) (not_not_intro (by omega)))
    refine And.intro (by rw [h1s, hby]; simp only [Bool.and_eq_true, decide_eq_true_eq]; exact ⟨⟨⟨⟨⟨⟨rfl, rfl⟩, Nat.ble_eq_true_of_le (by simp [by2, by4] <;> omega)⟩, rfl⟩, (by first | omega | (simp <;> omega))⟩, (by first | omega | (simp <;> omega))⟩, Nat.ble_eq_true_of_le (by simp [by2, by4] <;> omega)⟩) ?_
    refine Exists.intro ((x :: xs).map byV) (And.intro (zAp (l := x :: xs) h1s rfl) ?_)
    refine And.intro (by rw [h1s, hby]; simp only [Bool.and_eq_true, decide_eq_true_eq]; exact ⟨⟨⟨⟨⟨⟨rfl, rfl⟩, Nat.ble_eq_true_of_le (by simp [by2, by4] <;> omega)⟩, hone⟩, (by first | omega | (simp <;> omega))⟩, (by first | omega | (simp <;> omega))⟩, Nat.ble_eq_true_of_le (by simp [by2, by4] <;> omega)⟩) ?_
    have hv : Value.slice (some ⟨11, 0, none⟩) (us.length + 1 + 4 + 2 + (xs.length + 1)) U = ovN 11 ((u :: us ++ by4 w) ++ by2 (xs.length + 1) ++ (x :: xs)) := by rw [zCf 11 (by simp)]; simp [by2, by4]; try omega
    refine ⟨_, _, _, 11, 8, congrArg (fun v => Res.ret (.tuple #[v, .int .i64 0]) _ _ _) hv, fun _ => ⟨by decide, by decide, ?_⟩, .inr ⟨by simp, by decide, by decide, fun _ => by decide⟩, by show some (AObj.cells _ _) = _; simp, by show some (AObj.cells _ _) = _; simp⟩
    refine (show some (AObj.cells _ _) = some (AObj.cells _ _) from congrArg (fun l => some (AObj.cells l _)) ?_)
    simp [h1s, by2, by4, List.take_of_length_le, List.take_append, hz2]
noncomputable def ct_rrecw : Ct Try.prog 0 := ct_rpk 22 WrtY WrtY.xs WrtY.inj (fun _ => rfl) (fun y => y.x.ok = true) (fun en T y => y.D en T) 800000000 (fun y en hs => rrecw0_fn y en hs) (fun y en T hT hT0 hTl hs => rrecw1_fn y en T hT hT0 hTl hs)
end Go.Proofs.Ytmpaeabkdhjamaa
namespace Go.Proofs.Ytmpaeabkdhjamaa
open Go Go.RowKit
noncomputable def tbSb : Tb Try.prog 0 := tbOf mixed []
theorem srcU {G : Gh} {b c : Nat} {pre post : List Value} {l : Bl} (hG : (G b).bind AObj.look = some (pre ++ l.flatMap layU.g ++ post)) : zAw G 1 (.slice (some ⟨b, pre.length, none⟩) l.length c) = some (l.length, l.map fun b : UInt8 => Value.int .u8 (b.toNat : Int)) := by
 have h : l.flatMap layU.g = l.map fun b : UInt8 => Value.int .u8 (b.toNat : Int) := zPl l
 rw [← h]
 unfold zAw
 cases hl : Nat.beq l.length 0 with
 | true =>
  have : l = [] := List.length_eq_zero_iff.1 (Nat.eq_of_beq_eq_true hl)
  subst this
  simp [hl]
 | false =>
  have h1 := zAf layU.g layU.k layU.len l
  have h2 : layU.k = 1 := rfl
  rw [h2, Nat.mul_one] at h1
  simp only [hl, cond_false, hG]
  rw [Nat.ble_eq_true_of_le (by simp only [List.length_append, h1]; omega), cond_true, List.append_assoc, List.drop_left, Nat.mul_one, ← h1, List.take_left]
theorem sameB_fn (c1 c2 : Nat) (a1 b1 a2 b2 : List Value) (l1 l2 : Bl) :
  ∃ r, FnS Try.prog 0 23 [.slice (some ⟨0, a1.length, none⟩) l1.length c1, .slice (some ⟨1, a2.length, none⟩) l2.length c2] (heap 2 [(0, .win (a1 ++ l1.flatMap layU.g ++ b1) layU.k), (1, .win (a2 ++ l2.flatMap layU.g ++ b2) layU.k)]) 2 r ∧ ∃ H m wr, r = .ret (.bool (decide (l1 = l2))) H m wr ∧ ∀ k ∈ wr, 2 ≤ k := by
 refine zBm mixed tbSb [0, 1] Try.func23 (c := bodyOf Try.f23) (by kernel_rfl) ?_
 refine Exists.intro l1 (And.intro (srcU rfl) ?_)
 refine Exists.intro l2 (And.intro (srcU rfl) ?_)
 refine ⟨_, _, _, congrArg (fun b => Res.ret (.bool b) _ _ _) ?_, zDm rfl⟩
 show ((l1.toArray).toList == (l2.toArray).toList) = decide (l1 = l2)
 refine Bool.eq_iff_iff.2 ?_
 simp
noncomputable def zVi : Ct Try.prog 0 := Ct.inl tbSb mixed [] 23 Try.f23 Try.func23 (bodyOf Try.f23) (by kernel_rfl)
def ownU (b : Nat) (l : Bl) : RdL UInt8 := ⟨b, U, [], l, []⟩
theorem ownU_at {H : Tr AObj} {b : Nat} {l : Bl} (h : H.get b = some (.cells (l.map byV) 5)) : (ownU b l).at layU H := by
 refine ⟨?_, rfl, rfl⟩
 show (H.get b).bind _ = some ([] ++ l.flatMap layU.g ++ [])
 rw [h, List.append_nil, List.nil_append, zPl]; rfl
def sameAt (H : Tr AObj) (args : List Value) : Prop := ∃ (l : Bl) (b1 b2 : Nat), args = [.slice (some ⟨b1, 0, none⟩) l.length U, .slice (some ⟨b2, 0, none⟩) l.length U] ∧ H.get b1 = some (.cells (l.map byV) 5) ∧ H.get b2 = some (.cells (l.map byV) 5)
theorem sameAt_ok {H : Tr AObj} {args : List Value} (h : sameAt H args) (n : Nat) : TOK Try.prog 0 (.call 23 args) ⟨.e, H, n, [], []⟩ (.ret (.bool true) H n []) := by
 obtain ⟨l, b1, b2, rfl, h1, h2⟩ := h
 obtain ⟨r, hF, H', m, wr, rfl, hw⟩ := sameB_fn U U [] [] [] [] l l
 rw [decide_eq_true rfl] at hF
 have hz : (Try.prog.info? 5).map (·.size) = some layU.k := by kernel_rfl
 obtain ⟨o1, e1, r1⟩ := (ownU_at h1).1.ro (P := Try.prog) (σ := caR [b1, b2]) (RdL.plain rfl rfl) hz
 obtain ⟨o2, e2, r2⟩ := (ownU_at h2).1.ro (P := Try.prog) (σ := caR [b1, b2]) (RdL.plain rfl rfl) hz
 exact zCc [b1, b2] hF hw (dup_win (fun x hx => by simp only [List.mem_cons, List.not_mem_nil, or_false] at hx; rcases hx with rfl | rfl <;> exact trivial)) (.cons _ _ _ _ (.sl _ _ _ _ _ rfl) (.cons _ _ _ _ (.sl _ _ _ _ _ rfl) .nil)) (zCh ⟨⟨b1, _, rfl, e1, r1⟩, ⟨b2, _, rfl, e2, r2⟩, trivial⟩) rfl
open Classical in
noncomputable def ct_sameT : Ct Try.prog 0 where
 f := 23
 res args H n := if sameAt H args then .ret (.bool true) H n [] else .bad "" []
 ok args H n := by
  split
  ·exact sameAt_ok ‹_› n
  ·trivial
 ck args H n K := sameAt H args ∧ K (.ret (.bool true) H n [])
 imp args H n K h := by rw [if_pos h.1]; exact h.2
noncomputable def ct_sameE : Ct Try.prog 0 := Ct.alt nil0 zVi ct_sameT rfl
end Go.Proofs.Ytmpaeabkdhjamaa
namespace Go.Proofs.Ytmpaeabkdhjamaa
open Go Go.RowKit
noncomputable def inl_new : Ct Try.prog 0 := Ct.inl (tbOf mixed []) mixed [] 17 Try.f17 Try.func17 (bodyOf Try.f17) (by kernel_rfl)
noncomputable def inl_known : Ct Try.prog 0 := Ct.inl (tbOf mixed []) mixed [] 24 Try.f24 Try.func24 (bodyOf Try.f24) (by kernel_rfl)
noncomputable def inl_name0 : Ct Try.prog 0 := Ct.inl (tbOf mixed []) mixed [] 43 Try.f43 Try.func43 (bodyOf Try.f43) (by kernel_rfl)
noncomputable def zPj : Ct Try.prog 0 := Ct.inl (tbOf mixed [inl_name0]) mixed [] 42 Try.f42 Try.func42 (bodyOf Try.f42) (by kernel_rfl)
noncomputable def inl_recw0 : Ct Try.prog 0 := Ct.inl (tbOf mixed [zPj]) mixed [] 21 Try.f21 Try.func21 (bodyOf Try.f21) (by kernel_rfl)
noncomputable def inl_ask0 : Ct Try.prog 0 := Ct.inl (tbOf mixed [zPj]) mixed [] 19 Try.f19 Try.func19 (bodyOf Try.f19) (by kernel_rfl)
def pnil0 : List Value → Bool
 | .pointer none :: _ => true
 | _ => false
noncomputable def ct_recwA : Ct Try.prog 0 := Ct.alt pnil0 inl_recw0 ct_recw rfl
noncomputable def ct_askA : Ct Try.prog 0 := Ct.alt pnil0 inl_ask0 ct_ask rfl
noncomputable def tbLv2 : Tb Try.prog 0 := tbOf mixed [inl_new, ct_long7, ct_pick, ct_sameE, inl_known, ct_recwA, ct_askA, ct_rrecw, ct_rask, ct_overB, Ct.yes 15 zQz]
theorem zTe (T : List (Bl × Nat)) : (encT T).length = T.length := by simp [encT]
theorem zFl {σ : Nat → Nat → Prop} (T : List (Bl × Nat)) (ck : Nat) : RO Try.prog σ (.map (encT (T ++ [])) (ck + ([] : List (Bl × Nat)).length)) (.map (encT T) ck) := by
 rw [List.append_nil]; exact RO.map _ _ _ (zAh _)
theorem zAt {σ : Nat → Nat → Prop} (T : List (Bl × Nat)) (ck : Nat) : RO Try.prog σ (.map (encT T) ck) (.map (encT T) ck) := RO.map _ _ _ (zAh _)
theorem zSz {en : Nat} {T : List (Bl × Nat)} {a : Int} {n : ByteArray} {t c : Int} : (askD en T a n t c).2.2.1.length ≤ 300 := by
 unfold askD
 split
 ·exact Nat.zero_le _
 split
 ·split
  ·exact Nat.zero_le _
  ·rename_i he
   obtain ⟨_, _, p4, p5⟩ := zCo (Decidable.not_not.1 he)
   have h1 := zAy T a.toNat (bs n).length (bs n) 0
   have h2 := zBd T a.toNat (bs n).length (bs n) 0
   show (packN T a.toNat (bs n).length (bs n) 0).2.length ≤ 300
   omega
 ·exact Nat.zero_le _
theorem recD_len {en : Nat} {T : List (Bl × Nat)} {a : Int} {x : RcX} : (recD en T a x).2.2.1.length ≤ 2000 := by
 unfold recD
 split
 ·exact Nat.zero_le _
 simp only []
 split
 ·exact Nat.zero_le _
 ·have h1 : (askD en T a x.n x.t x.c).2.2.1.length ≤ 300 := zSz
  obtain ⟨D, hD⟩ : ∃ D, wrD (askD en T a x.n x.t x.c).2.2.2 (T ++ (askD en T a x.n x.t x.c).2.2.1) ((a.toNat + ((askD en T a x.n x.t x.c).2.1 ++ by4 x.ttl.toNat).length + 2 : Nat) : Int) x.t (bs x.d) = D := ⟨_, rfl⟩
  have h2 : D.2.2.1.length ≤ 1000 := by
   rw [← hD]
   unfold wrD
   split
   ·exact Nat.zero_le _
   ·rename_i h
    obtain ⟨k1, k2, k3, k4⟩ := zKh (Decidable.not_not.1 h)
    obtain ⟨q1, q2, q3⟩ := zSo ((a.toNat + ((askD en T a x.n x.t x.c).2.1 ++ by4 x.ttl.toNat).length + 2 : Nat) : Int) (T := T ++ (askD en T a x.n x.t x.c).2.2.1) (pcsD x.t (bs x.d)) [] [] (askD en T a x.n x.t x.c).2.2.2 (fun s hs => (k1 s hs).2)
    simp only [List.length_nil] at q1 q2
    omega
  rw [hD]
  split
  ·simp only [List.length_append]; omega
  ·simp only [List.length_append]; omega
def actD (en : Nat) (T : List (Bl × Nat)) (a : Int) (ask : Bool) (x : RcX) : Int × Bl × List (Bl × Nat) × Nat := match ask with
 | true => askD en T a x.n x.t x.c
 | false => recD en T a x
theorem actD_good {en : Nat} {T : List (Bl × Nat)} {a : Int} {ask : Bool} {x : RcX} (h : goodT T) : goodT (T ++ (actD en T a ask x).2.2.1) := by cases ask; exact recD_good h; exact zGx h
theorem actD_len {en : Nat} {T : List (Bl × Nat)} {a : Int} {ask : Bool} {x : RcX} : (actD en T a ask x).2.2.1.length ≤ 2000 := by
 cases ask
 ·exact recD_len
 ·exact Nat.le_trans zSz (by decide)
def lv7E (l : List A7) (c i : Nat) (T : List (Bl × Nat)) (en ck : Nat) (f : Nat → Option Value) : Fs := match T with
 | [] => ⟨slots 8 [(0, .slice (some ⟨0, 0, none⟩) l.length c), (3, .pointer (some ⟨2, 0, none⟩)), (4, .pointer (some ⟨3, 0, none⟩)), (5, .int .i64 (i : Int))] f, heap 4 [(0, .win (l.flatMap layA7.g) layA7.k), (1, .map (encT []) ck), (2, .cells [.map (some 1), .int .i64 (en : Int)] 73), (3, .cells [.slice none 0 0, .int .i64 (en : Int)] 38)], 4, [], []⟩
 | q :: T => ⟨slots 8 [(0, .slice (some ⟨0, 0, none⟩) l.length c), (3, .pointer (some ⟨2, 0, none⟩)), (4, .pointer (some ⟨3, 0, none⟩)), (5, .int .i64 (i : Int))] f, heap 4 [(0, .win (l.flatMap layA7.g) layA7.k), (1, .map (encT (q :: T)) ck), (2, .cells [.map (some 1), .int .i64 (en : Int)] 73), (3, .cells [.slice (some ⟨4, 0, none⟩) (q :: T).length U, .int .i64 (en : Int)] 38), (4, .cells ((q :: T).flatMap layT.g) 107)], 5, [], []⟩
def lv7S (l : List A7) (c : Nat) (x : Nat × List (Bl × Nat) × Nat × Nat) (f : Nat → Option Value) : Fs := lv7E l c x.1 x.2.1 x.2.2.1 x.2.2.2 f
def lv7A (l : List A7) (c i : Nat) (T : List (Bl × Nat)) (en ck : Nat) (a : Int) (f : Nat → Option Value) : Fs := match T with
 | [] => ⟨slots 8 [(0, .slice (some ⟨0, 0, none⟩) l.length c), (3, .pointer (some ⟨2, 0, none⟩)), (4, .pointer (some ⟨3, 0, none⟩)), (5, .int .i64 (i : Int)), (6, .int .i64 a)] f, heap 4 [(0, .win (l.flatMap layA7.g) layA7.k), (1, .map (encT []) ck), (2, .cells [.map (some 1), .int .i64 (en : Int)] 73), (3, .cells [.slice none 0 0, .int .i64 (en : Int)] 38)], 4, [], []⟩
 | q :: T => ⟨slots 8 [(0, .slice (some ⟨0, 0, none⟩) l.length c), (3, .pointer (some ⟨2, 0, none⟩)), (4, .pointer (some ⟨3, 0, none⟩)), (5, .int .i64 (i : Int)), (6, .int .i64 a)] f, heap 4 [(0, .win (l.flatMap layA7.g) layA7.k), (1, .map (encT (q :: T)) ck), (2, .cells [.map (some 1), .int .i64 (en : Int)] 73), (3, .cells [.slice (some ⟨4, 0, none⟩) (q :: T).length U, .int .i64 (en : Int)] 38), (4, .cells ((q :: T).flatMap layT.g) 107)], 5, [], []⟩
def lv7X (l : List A7) (c i : Nat) (T : List (Bl × Nat)) (en ck : Nat) (a : Int) (x : RcX) (f : Nat → Option Value) : Fs := match T with
 | [] => ⟨slots 8 [(0, .slice (some ⟨0, 0, none⟩) l.length c), (3, .pointer (some ⟨2, 0, none⟩)), (4, .pointer (some ⟨3, 0, none⟩)), (5, .int .i64 (i : Int)), (6, .int .i64 a), (7, .pointer (some ⟨4, 0, none⟩))] f, heap 4 [(0, .win (l.flatMap layA7.g) layA7.k), (1, .map (encT []) ck), (2, .cells [.map (some 1), .int .i64 (en : Int)] 73), (3, .cells [.slice none 0 0, .int .i64 (en : Int)] 38), (4, .cells x.g 23)], 5, [], []⟩
 | q :: T => ⟨slots 8 [(0, .slice (some ⟨0, 0, none⟩) l.length c), (3, .pointer (some ⟨2, 0, none⟩)), (4, .pointer (some ⟨3, 0, none⟩)), (5, .int .i64 (i : Int)), (6, .int .i64 a), (7, .pointer (some ⟨5, 0, none⟩))] f, heap 4 [(0, .win (l.flatMap layA7.g) layA7.k), (1, .map (encT (q :: T)) ck), (2, .cells [.map (some 1), .int .i64 (en : Int)] 73), (3, .cells [.slice (some ⟨4, 0, none⟩) (q :: T).length U, .int .i64 (en : Int)] 38), (4, .cells ((q :: T).flatMap layT.g) 107), (5, .cells x.g 23)], 6, [], []⟩
def lv7Y (l : List A7) (c i : Nat) (T : List (Bl × Nat)) (en ck : Nat) (a : Int) (x : RcX) (f : Nat → Option Value) : Fs := match T with
 | [] => ⟨slots 8 [(0, .slice (some ⟨0, 0, none⟩) l.length c), (3, .pointer (some ⟨2, 0, none⟩)), (4, .pointer (some ⟨3, 0, none⟩)), (5, .int .i64 (i : Int)), (6, .int .i64 a), (7, .pointer (some ⟨4, 0, none⟩)), (8, .pointer (some ⟨5, 0, none⟩))] f, heap 4 [(0, .win (l.flatMap layA7.g) layA7.k), (1, .map (encT []) ck), (2, .cells [.map (some 1), .int .i64 (en : Int)] 73), (3, .cells [.slice none 0 0, .int .i64 (en : Int)] 38), (4, .cells x.g 23), (5, .cells [.string x.n, .int .i64 x.t, .int .i64 x.c] 43)], 6, [], []⟩
 | q :: T => ⟨slots 8 [(0, .slice (some ⟨0, 0, none⟩) l.length c), (3, .pointer (some ⟨2, 0, none⟩)), (4, .pointer (some ⟨3, 0, none⟩)), (5, .int .i64 (i : Int)), (6, .int .i64 a), (7, .pointer (some ⟨5, 0, none⟩)), (8, .pointer (some ⟨6, 0, none⟩))] f, heap 4 [(0, .win (l.flatMap layA7.g) layA7.k), (1, .map (encT (q :: T)) ck), (2, .cells [.map (some 1), .int .i64 (en : Int)] 73), (3, .cells [.slice (some ⟨4, 0, none⟩) (q :: T).length U, .int .i64 (en : Int)] 38), (4, .cells ((q :: T).flatMap layT.g) 107), (5, .cells x.g 23), (6, .cells [.string x.n, .int .i64 x.t, .int .i64 x.c] 43)], 7, [], []⟩
def lv7C (l : List A7) (c i : Nat) (T : List (Bl × Nat)) (en ck : Nat) (e : Int) (o : Bl) (f : Nat → Option Value) : Fs := match T, o with
 | [], [] => ⟨slots 8 [(0, .slice (some ⟨0, 0, none⟩) l.length c), (3, .pointer (some ⟨2, 0, none⟩)), (4, .pointer (some ⟨3, 0, none⟩)), (5, .int .i64 (i : Int)), (9, .slice none 0 0), (11, .int .i64 e), (10, .slice none 0 0), (12, .int .i64 e)] f, heap 4 [(0, .win (l.flatMap layA7.g) layA7.k), (1, .map (encT []) ck), (2, .cells [.map (some 1), .int .i64 (en : Int)] 73), (3, .cells [.slice none 0 0, .int .i64 (en : Int)] 38)], 4, [], []⟩
 | [], u :: us => ⟨slots 8 [(0, .slice (some ⟨0, 0, none⟩) l.length c), (3, .pointer (some ⟨2, 0, none⟩)), (4, .pointer (some ⟨3, 0, none⟩)), (5, .int .i64 (i : Int)), (9, .slice (some ⟨4, 0, none⟩) (us.length + 1) U), (11, .int .i64 e), (10, .slice (some ⟨5, 0, none⟩) (us.length + 1) U), (12, .int .i64 e)] f, heap 4 [(0, .win (l.flatMap layA7.g) layA7.k), (1, .map (encT []) ck), (2, .cells [.map (some 1), .int .i64 (en : Int)] 73), (3, .cells [.slice none 0 0, .int .i64 (en : Int)] 38), (4, .cells ((u :: us).map byV) 5), (5, .cells ((u :: us).map byV) 5)], 6, [], []⟩
 | q :: T, [] => ⟨slots 8 [(0, .slice (some ⟨0, 0, none⟩) l.length c), (3, .pointer (some ⟨2, 0, none⟩)), (4, .pointer (some ⟨3, 0, none⟩)), (5, .int .i64 (i : Int)), (9, .slice none 0 0), (11, .int .i64 e), (10, .slice none 0 0), (12, .int .i64 e)] f, heap 4 [(0, .win (l.flatMap layA7.g) layA7.k), (1, .map (encT (q :: T)) ck), (2, .cells [.map (some 1), .int .i64 (en : Int)] 73), (3, .cells [.slice (some ⟨4, 0, none⟩) (q :: T).length U, .int .i64 (en : Int)] 38), (4, .cells ((q :: T).flatMap layT.g) 107)], 5, [], []⟩
 | q :: T, u :: us => ⟨slots 8 [(0, .slice (some ⟨0, 0, none⟩) l.length c), (3, .pointer (some ⟨2, 0, none⟩)), (4, .pointer (some ⟨3, 0, none⟩)), (5, .int .i64 (i : Int)), (9, .slice (some ⟨5, 0, none⟩) (us.length + 1) U), (11, .int .i64 e), (10, .slice (some ⟨6, 0, none⟩) (us.length + 1) U), (12, .int .i64 e)] f, heap 4 [(0, .win (l.flatMap layA7.g) layA7.k), (1, .map (encT (q :: T)) ck), (2, .cells [.map (some 1), .int .i64 (en : Int)] 73), (3, .cells [.slice (some ⟨4, 0, none⟩) (q :: T).length U, .int .i64 (en : Int)] 38), (4, .cells ((q :: T).flatMap layT.g) 107), (5, .cells ((u :: us).map byV) 5), (6, .cells ((u :: us).map byV) 5)], 7, [], []⟩
theorem fact7 {l : List A7} (hd : ∀ x ∈ l, x.x.ok = true ∧ (bs x.x.n).length ≤ 3000 ∧ (bs x.x.d).length ≤ 3000) (i : Nat) (h : i < l.length) {x : A7} (hx : l[i] = x) : inI (i : Int) l.length = true ∧ (∀ j (_ : j < 8), (l.flatMap layA7.g)[0 + ((i : Int)).toNat * (Try.prog.types[41]).size + j]? = x.g[j]?) ∧
  (0 + ((i : Int)).toNat * (Try.prog.types[41]).size + 0 + 5 ≤ (l.flatMap layA7.g).length ∧ ((l.flatMap layA7.g).drop (0 + ((i : Int)).toNat * (Try.prog.types[41]).size + 0)).take 5 = x.x.g) ∧ x.x.ok = true ∧ shortB x.x.n = true := by
 have hsz : (Try.prog.types[41]).size = 8 := by kernel_rfl
 subst hx
 obtain ⟨h1, h2, h3⟩ := hd _ (List.getElem_mem h)
 refine ⟨by simp [inI]; omega, fun j hj => ?_, ?_, h1, zBq (by omega)⟩
 ·have := RdL.cell layA7 [] [] l i j h hj
  rw [List.nil_append, List.append_nil, List.length_nil] at this
  rw [hsz, Int.toNat_natCast]; exact this
 ·have := RdL.sub layA7 [] [] l i 0 5 h (by decide)
  rw [List.nil_append, List.append_nil, List.length_nil] at this
  rw [hsz, Int.toNat_natCast]; exact this
theorem lv7x_0 (l : List A7) (c i en ck : Nat) (f : Nat → Option Value) (_ : ∀ x ∈ l, x.x.ok = true ∧ (bs x.x.n).length ≤ 3000 ∧ (bs x.x.d).length ≤ 3000) (_ : l.length ≤ 40) (h1 : i < l.length) : CW Try.prog 0 1 (1 + (Try.f5.ntmps - 1)) none (codeAt (loopAt Try.f5 0) [0]) (lv7E l c i [] en ck f) (stepK Try.prog 0 1 (1 + (Try.f5.ntmps - 1)) none (lv7E l c i [] en ck)) := by
 have hpl : plainL (l.flatMap layA7.g) = true := zAa layA7.g layA7.plain _
 refine zAn tbLv2 [0] 1 _ none mixed _ _ _ ?_
 refine ifK (fun _ => ?_) (fun g => absurd (show ((i : Nat) : Int) < (l.length : Int) by omega) (of_decide_eq_false g))
 exact rcq [1, 2, 3] ⟨⟨_, rfl, .sl _ _ _ _ _ rfl⟩, ⟨_, rfl, .ptr _ _ _ rfl⟩, ⟨_, rfl, .ptr _ _ _ rfl⟩, ⟨_, rfl, .int _ _⟩, trivial⟩ ⟨bpo (hpl), ⟨by decide, _, rfl, zAt _ _⟩, ⟨by decide, _, rfl, zAg 1 1 (by exact rfl) _⟩, bpo rfl, trivial⟩ .nil
theorem lv7y_0 (l : List A7) (c i en ck : Nat) (f : Nat → Option Value) (hd : ∀ x ∈ l, x.x.ok = true ∧ (bs x.x.n).length ≤ 3000 ∧ (bs x.x.d).length ≤ 3000) (_ : l.length ≤ 40) (h1 : i < l.length) (x : RcX) (ask raw : Bool) (a0 : Int) (hx : l[i] = ⟨x, ask, raw, a0⟩) : CW Try.prog 0 1 (1 + (Try.f5.ntmps - 1)) none (codeAt (loopAt Try.f5 0) [1, 0, 0]) (lv7E l c i [] en ck f) (stepK Try.prog 0 1 (1 + (Try.f5.ntmps - 1)) none (lv7A l c i [] en ck a0)) := by
 obtain ⟨dom, cell, sub, hok, hsh⟩ := fact7 hd i h1 hx
 have hpl : plainL (l.flatMap layA7.g) = true := zAa layA7.g layA7.plain _
 refine zAn tbLv2 [0] 1 _ none mixed _ _ _ ?_
 refine ifK (fun _ => ?_) (fun h2 => absurd (dom.symm.trans h2) (by decide))
 refine Exists.intro a0 (And.intro (cell 7 (by decide)) ?_)
 exact rcq [1, 2, 3] ⟨⟨_, rfl, .sl _ _ _ _ _ rfl⟩, ⟨_, rfl, .ptr _ _ _ rfl⟩, ⟨_, rfl, .ptr _ _ _ rfl⟩, ⟨_, rfl, .int _ _⟩, ⟨_, rfl, .int _ _⟩, trivial⟩ ⟨bpo (hpl), ⟨by decide, _, rfl, zAt _ _⟩, ⟨by decide, _, rfl, zAg 1 1 (by exact rfl) _⟩, bpo rfl, trivial⟩ .nil
theorem lv7z_00 (l : List A7) (c i en ck : Nat) (f : Nat → Option Value) (hd : ∀ x ∈ l, x.x.ok = true ∧ (bs x.x.n).length ≤ 3000 ∧ (bs x.x.d).length ≤ 3000) (_ : l.length ≤ 40) (h1 : i < l.length) (x : RcX) (ask : Bool) (a0 : Int) (hx : l[i] = ⟨x, ask, false, a0⟩) : CW Try.prog 0 1 (1 + (Try.f5.ntmps - 1)) none (codeAt (loopAt Try.f5 0) [1, 0, 1, 0]) (lv7A l c i [] en ck a0 f) (stepK Try.prog 0 1 (1 + (Try.f5.ntmps - 1)) none (lv7A l c i [] en ck (IntKind.i64.wrap ((en : Int) + pickI a0 20000)))) := by
 obtain ⟨dom, cell, sub, hok, hsh⟩ := fact7 hd i h1 hx
 have hpl : plainL (l.flatMap layA7.g) = true := zAa layA7.g layA7.plain _
 refine zAn tbLv2 [0] 1 _ none mixed _ _ _ ?_
 refine ifK (fun _ => ?_) (fun h2 => absurd (dom.symm.trans h2) (by decide))
 refine Exists.intro false (And.intro (cell 6 (by decide)) ?_)
 refine And.intro (by kernel_rfl) ?_
 exact rcq [1, 2, 3] ⟨⟨_, rfl, .sl _ _ _ _ _ rfl⟩, ⟨_, rfl, .ptr _ _ _ rfl⟩, ⟨_, rfl, .ptr _ _ _ rfl⟩, ⟨_, rfl, .int _ _⟩, ⟨_, rfl, .int _ _⟩, trivial⟩ ⟨bpo (hpl), ⟨by decide, _, rfl, zAt _ _⟩, ⟨by decide, _, rfl, zAg 1 1 (by exact rfl) _⟩, bpo rfl, trivial⟩ .nil
theorem lv7z_01 (l : List A7) (c i en ck : Nat) (f : Nat → Option Value) (hd : ∀ x ∈ l, x.x.ok = true ∧ (bs x.x.n).length ≤ 3000 ∧ (bs x.x.d).length ≤ 3000) (_ : l.length ≤ 40) (h1 : i < l.length) (x : RcX) (ask : Bool) (a0 : Int) (hx : l[i] = ⟨x, ask, true, a0⟩) : CW Try.prog 0 1 (1 + (Try.f5.ntmps - 1)) none (codeAt (loopAt Try.f5 0) [1, 0, 1, 0]) (lv7A l c i [] en ck a0 f) (stepK Try.prog 0 1 (1 + (Try.f5.ntmps - 1)) none (lv7A l c i [] en ck a0)) := by
 obtain ⟨dom, cell, sub, hok, hsh⟩ := fact7 hd i h1 hx
 have hpl : plainL (l.flatMap layA7.g) = true := zAa layA7.g layA7.plain _
 refine zAn tbLv2 [0] 1 _ none mixed _ _ _ ?_
 refine ifK (fun _ => ?_) (fun h2 => absurd (dom.symm.trans h2) (by decide))
 refine Exists.intro true (And.intro (cell 6 (by decide)) ?_)
 exact rcq [1, 2, 3] ⟨⟨_, rfl, .sl _ _ _ _ _ rfl⟩, ⟨_, rfl, .ptr _ _ _ rfl⟩, ⟨_, rfl, .ptr _ _ _ rfl⟩, ⟨_, rfl, .int _ _⟩, ⟨_, rfl, .int _ _⟩, trivial⟩ ⟨bpo (hpl), ⟨by decide, _, rfl, zAt _ _⟩, ⟨by decide, _, rfl, zAg 1 1 (by exact rfl) _⟩, bpo rfl, trivial⟩ .nil
theorem lv7q_0 (l : List A7) (c i en ck : Nat) (f : Nat → Option Value) (hd : ∀ x ∈ l, x.x.ok = true ∧ (bs x.x.n).length ≤ 3000 ∧ (bs x.x.d).length ≤ 3000) (_ : l.length ≤ 40) (h1 : i < l.length) (x : RcX) (ask raw : Bool) (a0 : Int) (hx : l[i] = ⟨x, ask, raw, a0⟩) (a : Int) : CW Try.prog 0 1 (1 + (Try.f5.ntmps - 1)) none (codeAt (loopAt Try.f5 0) [1, 0, 1, 1, 0]) (lv7A l c i [] en ck a f) (stepK Try.prog 0 1 (1 + (Try.f5.ntmps - 1)) none (lv7X l c i [] en ck a x)) := by
 obtain ⟨dom, cell, sub, hok, hsh⟩ := fact7 hd i h1 hx
 have hpl : plainL (l.flatMap layA7.g) = true := zAa layA7.g layA7.plain _
 obtain ⟨n, t, k, u, d⟩ := x
 refine zAn tbLv2 [0] 1 _ none mixed _ _ _ ?_
 refine ifK (fun _ => ?_) (fun h2 => absurd (dom.symm.trans h2) (by decide))
 refine Exists.intro n (Exists.intro t (Exists.intro k (Exists.intro u (Exists.intro d (And.intro sub ?_)))))
 exact rcq [1, 2, 3, 4] ⟨⟨_, rfl, .sl _ _ _ _ _ rfl⟩, ⟨_, rfl, .ptr _ _ _ rfl⟩, ⟨_, rfl, .ptr _ _ _ rfl⟩, ⟨_, rfl, .int _ _⟩, ⟨_, rfl, .int _ _⟩, ⟨_, rfl, .ptr _ _ _ rfl⟩, trivial⟩ ⟨bpo (hpl), ⟨by decide, _, rfl, zAt _ _⟩, ⟨by decide, _, rfl, zAg 1 1 (by exact rfl) _⟩, bpo rfl, bpo rfl, trivial⟩ .nil
theorem lv7r_0 (l : List A7) (c i en ck : Nat) (f : Nat → Option Value) (_ : ∀ x ∈ l, x.x.ok = true ∧ (bs x.x.n).length ≤ 3000 ∧ (bs x.x.d).length ≤ 3000) (_ : l.length ≤ 40) (_ : i < l.length) (a : Int) (x : RcX) : CW Try.prog 0 1 (1 + (Try.f5.ntmps - 1)) none (codeAt (loopAt Try.f5 0) [1, 0, 1, 1, 1, 0]) (lv7X l c i [] en ck a x f) (stepK Try.prog 0 1 (1 + (Try.f5.ntmps - 1)) none (lv7Y l c i [] en ck a x)) := by
 have hpl : plainL (l.flatMap layA7.g) = true := zAa layA7.g layA7.plain _
 obtain ⟨n, t, k, u, d⟩ := x
 refine zAn tbLv2 [0] 1 _ none mixed _ _ _ ?_
 exact rcq [1, 2, 3, 4, 5] ⟨⟨_, rfl, .sl _ _ _ _ _ rfl⟩, ⟨_, rfl, .ptr _ _ _ rfl⟩, ⟨_, rfl, .ptr _ _ _ rfl⟩, ⟨_, rfl, .int _ _⟩, ⟨_, rfl, .int _ _⟩, ⟨_, rfl, .ptr _ _ _ rfl⟩, ⟨_, rfl, .ptr _ _ _ rfl⟩, trivial⟩ ⟨bpo (hpl), ⟨by decide, _, rfl, zAt _ _⟩, ⟨by decide, _, rfl, zAg 1 1 (by exact rfl) _⟩, bpo rfl, bpo rfl, bpo rfl, trivial⟩ .nil
theorem lv7s_0 (l : List A7) (c i en ck : Nat) (f : Nat → Option Value) (_ : ∀ x ∈ l, x.x.ok = true ∧ (bs x.x.n).length ≤ 3000 ∧ (bs x.x.d).length ≤ 3000) (_ : l.length ≤ 40) (_ : i < l.length) (a : Int) (x : RcX) : CW Try.prog 0 1 (1 + (Try.f5.ntmps - 1)) none (codeAt (loopAt Try.f5 0) [1, 0, 1, 1, 1, 1, 0]) (lv7Y l c i [] en ck a x f) (stepK Try.prog 0 1 (1 + (Try.f5.ntmps - 1)) none (lv7Y l c i [] en ck a x)) := by
 have hpl : plainL (l.flatMap layA7.g) = true := zAa layA7.g layA7.plain _
 obtain ⟨n, t, k, u, d⟩ := x
 refine zAn tbLv2 [0] 1 _ none mixed _ _ _ ?_
 exact rcq [1, 2, 3, 4, 5] ⟨⟨_, rfl, .sl _ _ _ _ _ rfl⟩, ⟨_, rfl, .ptr _ _ _ rfl⟩, ⟨_, rfl, .ptr _ _ _ rfl⟩, ⟨_, rfl, .int _ _⟩, ⟨_, rfl, .int _ _⟩, ⟨_, rfl, .ptr _ _ _ rfl⟩, ⟨_, rfl, .ptr _ _ _ rfl⟩, trivial⟩ ⟨bpo (hpl), ⟨by decide, _, rfl, zAt _ _⟩, ⟨by decide, _, rfl, zAg 1 1 (by exact rfl) _⟩, bpo rfl, bpo rfl, bpo rfl, trivial⟩ .nil
theorem lv7t_0 (l : List A7) (c i en ck : Nat) (f : Nat → Option Value) (_ : ∀ x ∈ l, x.x.ok = true ∧ (bs x.x.n).length ≤ 3000 ∧ (bs x.x.d).length ≤ 3000) (_ : l.length ≤ 40) (_ : i < l.length) (a : Int) (x : RcX) : CW Try.prog 0 1 (1 + (Try.f5.ntmps - 1)) none (codeAt (loopAt Try.f5 0) [1, 0, 1, 1, 1, 1, 1, 0]) (lv7Y l c i [] en ck a x f) (stepK Try.prog 0 1 (1 + (Try.f5.ntmps - 1)) none (lv7Y l c i [] en ck a x)) := by
 have hpl : plainL (l.flatMap layA7.g) = true := zAa layA7.g layA7.plain _
 obtain ⟨n, t, k, u, d⟩ := x
 refine zAn tbLv2 [0] 1 _ none mixed _ _ _ ?_
 exact rcq [1, 2, 3, 4, 5] ⟨⟨_, rfl, .sl _ _ _ _ _ rfl⟩, ⟨_, rfl, .ptr _ _ _ rfl⟩, ⟨_, rfl, .ptr _ _ _ rfl⟩, ⟨_, rfl, .int _ _⟩, ⟨_, rfl, .int _ _⟩, ⟨_, rfl, .ptr _ _ _ rfl⟩, ⟨_, rfl, .ptr _ _ _ rfl⟩, trivial⟩ ⟨bpo (hpl), ⟨by decide, _, rfl, zAt _ _⟩, ⟨by decide, _, rfl, zAg 1 1 (by exact rfl) _⟩, bpo rfl, bpo rfl, bpo rfl, trivial⟩ .nil
theorem lv7v_0000 (l : List A7) (c i en ck : Nat) (f : Nat → Option Value) (hd : ∀ x ∈ l, x.x.ok = true ∧ (bs x.x.n).length ≤ 3000 ∧ (bs x.x.d).length ≤ 3000) (_ : l.length ≤ 40) (h1 : i < l.length) (x : RcX) (raw : Bool) (a0 : Int) (hx : l[i] = ⟨x, false, raw, a0⟩) (a e : Int) (en' : Nat) (hg : goodT []) (hT9 : ([] : List (Bl × Nat)).length ≤ 800000000) (hD : actD en [] a false x = (e, [], [], en')) : CW Try.prog 0 1 (1 + (Try.f5.ntmps - 1)) none (codeAt (loopAt Try.f5 0) [1, 0, 1, 1, 1, 1, 1, 1, 0]) (lv7Y l c i [] en ck a x f) (stepK Try.prog 0 1 (1 + (Try.f5.ntmps - 1)) none (lv7C l c i [] en' ck e [])) := by
 obtain ⟨dom, cell, sub, hok, hsh⟩ := fact7 hd i h1 hx
 have hpl : plainL (l.flatMap layA7.g) = true := zAa layA7.g layA7.plain _
 obtain ⟨n, t, k, u0, d⟩ := x
 have hsh : shortB n = true := hsh
 have hok : RcX.ok ⟨n, t, k, u0, d⟩ = true := hok
 refine zAn tbLv2 [0] 1 _ none mixed _ _ _ ?_
 refine ifK (fun _ => ?_) (fun h2 => absurd (dom.symm.trans h2) (by decide))
 refine Exists.intro false (And.intro (cell 5 (by decide)) ?_)
 refine Exists.intro (⟨2, 1, en, [], ck, ⟨a, ⟨n, t, k, u0, d⟩⟩, e, [], [], en'⟩ : PkY WrtY) (And.intro ⟨rfl, (show Tr.get _ 2 = some (AObj.cells [.map (some 1), .int .i64 (en : Int)] _) from rfl), (show Tr.get _ 1 = some (AObj.map (encT []) ck) from rfl), hg, hok, hD⟩ ?_)
 refine Exists.intro (⟨3, none, en, [], ⟨a, ⟨n, t, k, u0, d⟩⟩, e, [], [], en'⟩ : RpY WrtY) (And.intro ⟨rfl, (show Tr.get _ 3 = some (AObj.cells [.slice none 0 0, .int .i64 (en : Int)] _) from rfl), rfl, hg, hT9, hok, hD⟩ ?_)
 exact rcq [1, 2, 3] ⟨⟨_, rfl, .sl _ _ _ _ _ rfl⟩, ⟨_, rfl, .ptr _ _ _ rfl⟩, ⟨_, rfl, .ptr _ _ _ rfl⟩, ⟨_, rfl, .int _ _⟩, ⟨_, rfl, zAc 8 rfl⟩, ⟨_, rfl, .int _ _⟩, ⟨_, rfl, zAc 8 rfl⟩, ⟨_, rfl, .int _ _⟩, trivial⟩ ⟨bpo (hpl), ⟨by decide, _, rfl, zFl [] ck⟩, ⟨by decide, _, rfl, zAg 1 1 (by exact rfl) _⟩, bpo rfl, trivial⟩ .nil
theorem lv7v_0001 (l : List A7) (c i en ck : Nat) (f : Nat → Option Value) (hd : ∀ x ∈ l, x.x.ok = true ∧ (bs x.x.n).length ≤ 3000 ∧ (bs x.x.d).length ≤ 3000) (_ : l.length ≤ 40) (h1 : i < l.length) (x : RcX) (raw : Bool) (a0 : Int) (hx : l[i] = ⟨x, false, raw, a0⟩) (p : Bl × Nat) (F : List (Bl × Nat)) (a e : Int) (en' : Nat) (hg : goodT []) (hT9 : ([] : List (Bl × Nat)).length ≤ 800000000) (hD : actD en [] a false x = (e, [], (p :: F), en')) : CW Try.prog 0 1 (1 + (Try.f5.ntmps - 1)) none (codeAt (loopAt Try.f5 0) [1, 0, 1, 1, 1, 1, 1, 1, 0]) (lv7Y l c i [] en ck a x f) (stepK Try.prog 0 1 (1 + (Try.f5.ntmps - 1)) none (lv7C l c i (p :: F) en' (ck + (F.length + 1)) e [])) := by
 obtain ⟨dom, cell, sub, hok, hsh⟩ := fact7 hd i h1 hx
 have hpl : plainL (l.flatMap layA7.g) = true := zAa layA7.g layA7.plain _
 obtain ⟨n, t, k, u0, d⟩ := x
 have hsh : shortB n = true := hsh
 have hok : RcX.ok ⟨n, t, k, u0, d⟩ = true := hok
 refine zAn tbLv2 [0] 1 _ none mixed _ _ _ ?_
 refine ifK (fun _ => ?_) (fun h2 => absurd (dom.symm.trans h2) (by decide))
 refine Exists.intro false (And.intro (cell 5 (by decide)) ?_)
 refine Exists.intro (⟨2, 1, en, [], ck, ⟨a, ⟨n, t, k, u0, d⟩⟩, e, [], (p :: F), en'⟩ : PkY WrtY) (And.intro ⟨rfl, (show Tr.get _ 2 = some (AObj.cells [.map (some 1), .int .i64 (en : Int)] _) from rfl), (show Tr.get _ 1 = some (AObj.map (encT []) ck) from rfl), hg, hok, hD⟩ ?_)
 refine Exists.intro (⟨3, none, en, [], ⟨a, ⟨n, t, k, u0, d⟩⟩, e, [], (p :: F), en'⟩ : RpY WrtY) (And.intro ⟨rfl, (show Tr.get _ 3 = some (AObj.cells [.slice none 0 0, .int .i64 (en : Int)] _) from rfl), rfl, hg, hT9, hok, hD⟩ ?_)
 exact rcq [1, 2, 3, 6] ⟨⟨_, rfl, .sl _ _ _ _ _ rfl⟩, ⟨_, rfl, .ptr _ _ _ rfl⟩, ⟨_, rfl, .ptr _ _ _ rfl⟩, ⟨_, rfl, .int _ _⟩, ⟨_, rfl, zAc 8 rfl⟩, ⟨_, rfl, .int _ _⟩, ⟨_, rfl, zAc 8 rfl⟩, ⟨_, rfl, .int _ _⟩, trivial⟩ ⟨bpo (hpl), ⟨by decide, _, rfl, zAt ((p :: F)) _⟩, ⟨by decide, _, rfl, zAg 1 1 (by exact rfl) _⟩, ⟨by decide, _, rfl, zAr 6 4 (by rfl) rfl _⟩, ⟨by decide, _, rfl, zBb rfl (zAj _)⟩, trivial⟩ .nil
theorem lv7v_0010 (l : List A7) (c i en ck : Nat) (f : Nat → Option Value) (hd : ∀ x ∈ l, x.x.ok = true ∧ (bs x.x.n).length ≤ 3000 ∧ (bs x.x.d).length ≤ 3000) (_ : l.length ≤ 40) (h1 : i < l.length) (x : RcX) (raw : Bool) (a0 : Int) (hx : l[i] = ⟨x, false, raw, a0⟩) (u : UInt8) (us : Bl) (a e : Int) (en' : Nat) (hg : goodT []) (hT9 : ([] : List (Bl × Nat)).length ≤ 800000000) (hD : actD en [] a false x = (e, (u :: us), [], en')) : CW Try.prog 0 1 (1 + (Try.f5.ntmps - 1)) none (codeAt (loopAt Try.f5 0) [1, 0, 1, 1, 1, 1, 1, 1, 0]) (lv7Y l c i [] en ck a x f) (stepK Try.prog 0 1 (1 + (Try.f5.ntmps - 1)) none (lv7C l c i [] en' ck e (u :: us))) := by
 obtain ⟨dom, cell, sub, hok, hsh⟩ := fact7 hd i h1 hx
 have hpl : plainL (l.flatMap layA7.g) = true := zAa layA7.g layA7.plain _
 obtain ⟨n, t, k, u0, d⟩ := x
 have hsh : shortB n = true := hsh
 have hok : RcX.ok ⟨n, t, k, u0, d⟩ = true := hok
 refine zAn tbLv2 [0] 1 _ none mixed _ _ _ ?_
 refine ifK (fun _ => ?_) (fun h2 => absurd (dom.symm.trans h2) (by decide))
 refine Exists.intro false (And.intro (cell 5 (by decide)) ?_)
 refine Exists.intro (⟨2, 1, en, [], ck, ⟨a, ⟨n, t, k, u0, d⟩⟩, e, (u :: us), [], en'⟩ : PkY WrtY) (And.intro ⟨rfl, (show Tr.get _ 2 = some (AObj.cells [.map (some 1), .int .i64 (en : Int)] _) from rfl), (show Tr.get _ 1 = some (AObj.map (encT []) ck) from rfl), hg, hok, hD⟩ ?_)
 refine Exists.intro (⟨3, none, en, [], ⟨a, ⟨n, t, k, u0, d⟩⟩, e, (u :: us), [], en'⟩ : RpY WrtY) (And.intro ⟨rfl, (show Tr.get _ 3 = some (AObj.cells [.slice none 0 0, .int .i64 (en : Int)] _) from rfl), rfl, hg, hT9, hok, hD⟩ ?_)
 exact rcq [1, 2, 3, 6, 7] ⟨⟨_, rfl, .sl _ _ _ _ _ rfl⟩, ⟨_, rfl, .ptr _ _ _ rfl⟩, ⟨_, rfl, .ptr _ _ _ rfl⟩, ⟨_, rfl, .int _ _⟩, ⟨_, rfl, .sl _ _ _ _ _ rfl⟩, ⟨_, rfl, .int _ _⟩, ⟨_, rfl, .sl _ _ _ _ _ rfl⟩, ⟨_, rfl, .int _ _⟩, trivial⟩ ⟨bpo (hpl), ⟨by decide, _, rfl, zFl [] ck⟩, ⟨by decide, _, rfl, zAg 1 1 (by exact rfl) _⟩, bpo rfl, bpo (zAb (u :: us)), bpo (zAb (u :: us)), trivial⟩ .nil
theorem lv7v_0011 (l : List A7) (c i en ck : Nat) (f : Nat → Option Value) (hd : ∀ x ∈ l, x.x.ok = true ∧ (bs x.x.n).length ≤ 3000 ∧ (bs x.x.d).length ≤ 3000) (_ : l.length ≤ 40) (h1 : i < l.length) (x : RcX) (raw : Bool) (a0 : Int) (hx : l[i] = ⟨x, false, raw, a0⟩) (u : UInt8) (us : Bl) (p : Bl × Nat) (F : List (Bl × Nat)) (a e : Int) (en' : Nat) (hg : goodT []) (hT9 : ([] : List (Bl × Nat)).length ≤ 800000000) (hD : actD en [] a false x = (e, (u :: us), (p :: F), en')) : CW Try.prog 0 1 (1 + (Try.f5.ntmps - 1)) none (codeAt (loopAt Try.f5 0) [1, 0, 1, 1, 1, 1, 1, 1, 0]) (lv7Y l c i [] en ck a x f) (stepK Try.prog 0 1 (1 + (Try.f5.ntmps - 1)) none (lv7C l c i (p :: F) en' (ck + (F.length + 1)) e (u :: us))) := by
 obtain ⟨dom, cell, sub, hok, hsh⟩ := fact7 hd i h1 hx
 have hpl : plainL (l.flatMap layA7.g) = true := zAa layA7.g layA7.plain _
 obtain ⟨n, t, k, u0, d⟩ := x
 have hsh : shortB n = true := hsh
 have hok : RcX.ok ⟨n, t, k, u0, d⟩ = true := hok
 refine zAn tbLv2 [0] 1 _ none mixed _ _ _ ?_
 refine ifK (fun _ => ?_) (fun h2 => absurd (dom.symm.trans h2) (by decide))
 refine Exists.intro false (And.intro (cell 5 (by decide)) ?_)
 refine Exists.intro (⟨2, 1, en, [], ck, ⟨a, ⟨n, t, k, u0, d⟩⟩, e, (u :: us), (p :: F), en'⟩ : PkY WrtY) (And.intro ⟨rfl, (show Tr.get _ 2 = some (AObj.cells [.map (some 1), .int .i64 (en : Int)] _) from rfl), (show Tr.get _ 1 = some (AObj.map (encT []) ck) from rfl), hg, hok, hD⟩ ?_)
 refine Exists.intro (⟨3, none, en, [], ⟨a, ⟨n, t, k, u0, d⟩⟩, e, (u :: us), (p :: F), en'⟩ : RpY WrtY) (And.intro ⟨rfl, (show Tr.get _ 3 = some (AObj.cells [.slice none 0 0, .int .i64 (en : Int)] _) from rfl), rfl, hg, hT9, hok, hD⟩ ?_)
 exact rcq [1, 2, 3, 8, 6, 7] ⟨⟨_, rfl, .sl _ _ _ _ _ rfl⟩, ⟨_, rfl, .ptr _ _ _ rfl⟩, ⟨_, rfl, .ptr _ _ _ rfl⟩, ⟨_, rfl, .int _ _⟩, ⟨_, rfl, .sl _ _ _ _ _ rfl⟩, ⟨_, rfl, .int _ _⟩, ⟨_, rfl, .sl _ _ _ _ _ rfl⟩, ⟨_, rfl, .int _ _⟩, trivial⟩ ⟨bpo (hpl), ⟨by decide, _, rfl, zAt ((p :: F)) _⟩, ⟨by decide, _, rfl, zAg 1 1 (by exact rfl) _⟩, ⟨by decide, _, rfl, zAr 8 4 (by rfl) rfl _⟩, ⟨by decide, _, rfl, zBb rfl (zAj _)⟩, bpo (zAb (u :: us)), bpo (zAb (u :: us)), trivial⟩ .nil
theorem lv7v_1000 (l : List A7) (c i en ck : Nat) (f : Nat → Option Value) (hd : ∀ x ∈ l, x.x.ok = true ∧ (bs x.x.n).length ≤ 3000 ∧ (bs x.x.d).length ≤ 3000) (_ : l.length ≤ 40) (h1 : i < l.length) (x : RcX) (raw : Bool) (a0 : Int) (hx : l[i] = ⟨x, true, raw, a0⟩) (a e : Int) (en' : Nat) (hg : goodT []) (hT9 : ([] : List (Bl × Nat)).length ≤ 800000000) (hD : actD en [] a true x = (e, [], [], en')) : CW Try.prog 0 1 (1 + (Try.f5.ntmps - 1)) none (codeAt (loopAt Try.f5 0) [1, 0, 1, 1, 1, 1, 1, 1, 0]) (lv7Y l c i [] en ck a x f) (stepK Try.prog 0 1 (1 + (Try.f5.ntmps - 1)) none (lv7C l c i [] en' ck e [])) := by
 obtain ⟨dom, cell, sub, hok, hsh⟩ := fact7 hd i h1 hx
 have hpl : plainL (l.flatMap layA7.g) = true := zAa layA7.g layA7.plain _
 obtain ⟨n, t, k, u0, d⟩ := x
 have hsh : shortB n = true := hsh
 have hok : RcX.ok ⟨n, t, k, u0, d⟩ = true := hok
 refine zAn tbLv2 [0] 1 _ none mixed _ _ _ ?_
 refine ifK (fun _ => ?_) (fun h2 => absurd (dom.symm.trans h2) (by decide))
 refine Exists.intro true (And.intro (cell 5 (by decide)) ?_)
 refine Exists.intro (⟨2, 1, en, [], ck, ⟨a, n, t, k⟩, e, [], [], en'⟩ : PkY AskY) (And.intro ⟨rfl, (show Tr.get _ 2 = some (AObj.cells [.map (some 1), .int .i64 (en : Int)] _) from rfl), (show Tr.get _ 1 = some (AObj.map (encT []) ck) from rfl), hg, hsh, hD⟩ ?_)
 refine Exists.intro (⟨3, none, en, [], ⟨a, n, t, k⟩, e, [], [], en'⟩ : RpY AskY) (And.intro ⟨rfl, (show Tr.get _ 3 = some (AObj.cells [.slice none 0 0, .int .i64 (en : Int)] _) from rfl), rfl, hg, (Nat.le_trans hT9 (by decide)), hsh, hD⟩ ?_)
 exact rcq [1, 2, 3] ⟨⟨_, rfl, .sl _ _ _ _ _ rfl⟩, ⟨_, rfl, .ptr _ _ _ rfl⟩, ⟨_, rfl, .ptr _ _ _ rfl⟩, ⟨_, rfl, .int _ _⟩, ⟨_, rfl, zAc 8 rfl⟩, ⟨_, rfl, .int _ _⟩, ⟨_, rfl, zAc 8 rfl⟩, ⟨_, rfl, .int _ _⟩, trivial⟩ ⟨bpo (hpl), ⟨by decide, _, rfl, zFl [] ck⟩, ⟨by decide, _, rfl, zAg 1 1 (by exact rfl) _⟩, bpo rfl, trivial⟩ .nil
theorem lv7v_1001 (l : List A7) (c i en ck : Nat) (f : Nat → Option Value) (hd : ∀ x ∈ l, x.x.ok = true ∧ (bs x.x.n).length ≤ 3000 ∧ (bs x.x.d).length ≤ 3000) (_ : l.length ≤ 40) (h1 : i < l.length) (x : RcX) (raw : Bool) (a0 : Int) (hx : l[i] = ⟨x, true, raw, a0⟩) (p : Bl × Nat) (F : List (Bl × Nat)) (a e : Int) (en' : Nat) (hg : goodT []) (hT9 : ([] : List (Bl × Nat)).length ≤ 800000000) (hD : actD en [] a true x = (e, [], (p :: F), en')) : CW Try.prog 0 1 (1 + (Try.f5.ntmps - 1)) none (codeAt (loopAt Try.f5 0) [1, 0, 1, 1, 1, 1, 1, 1, 0]) (lv7Y l c i [] en ck a x f) (stepK Try.prog 0 1 (1 + (Try.f5.ntmps - 1)) none (lv7C l c i (p :: F) en' (ck + (F.length + 1)) e [])) := by
 obtain ⟨dom, cell, sub, hok, hsh⟩ := fact7 hd i h1 hx
 have hpl : plainL (l.flatMap layA7.g) = true := zAa layA7.g layA7.plain _
 obtain ⟨n, t, k, u0, d⟩ := x
 have hsh : shortB n = true := hsh
 have hok : RcX.ok ⟨n, t, k, u0, d⟩ = true := hok
 refine zAn tbLv2 [0] 1 _ none mixed _ _ _ ?_
 refine ifK (fun _ => ?_) (fun h2 => absurd (dom.symm.trans h2) (by decide))
 refine Exists.intro true (And.intro (cell 5 (by decide)) ?_)
 refine Exists.intro (⟨2, 1, en, [], ck, ⟨a, n, t, k⟩, e, [], (p :: F), en'⟩ : PkY AskY) (And.intro ⟨rfl, (show Tr.get _ 2 = some (AObj.cells [.map (some 1), .int .i64 (en : Int)] _) from rfl), (show Tr.get _ 1 = some (AObj.map (encT []) ck) from rfl), hg, hsh, hD⟩ ?_)
 refine Exists.intro (⟨3, none, en, [], ⟨a, n, t, k⟩, e, [], (p :: F), en'⟩ : RpY AskY) (And.intro ⟨rfl, (show Tr.get _ 3 = some (AObj.cells [.slice none 0 0, .int .i64 (en : Int)] _) from rfl), rfl, hg, (Nat.le_trans hT9 (by decide)), hsh, hD⟩ ?_)
 exact rcq [1, 2, 3, 6] ⟨⟨_, rfl, .sl _ _ _ _ _ rfl⟩, ⟨_, rfl, .ptr _ _ _ rfl⟩, ⟨_, rfl, .ptr _ _ _ rfl⟩, ⟨_, rfl, .int _ _⟩, ⟨_, rfl, zAc 8 rfl⟩, ⟨_, rfl, .int _ _⟩, ⟨_, rfl, zAc 8 rfl⟩, ⟨_, rfl, .int _ _⟩, trivial⟩ ⟨bpo (hpl), ⟨by decide, _, rfl, zAt ((p :: F)) _⟩, ⟨by decide, _, rfl, zAg 1 1 (by exact rfl) _⟩, ⟨by decide, _, rfl, zAr 6 4 (by rfl) rfl _⟩, ⟨by decide, _, rfl, zBb rfl (zAj _)⟩, trivial⟩ .nil
theorem lv7v_1010 (l : List A7) (c i en ck : Nat) (f : Nat → Option Value) (hd : ∀ x ∈ l, x.x.ok = true ∧ (bs x.x.n).length ≤ 3000 ∧ (bs x.x.d).length ≤ 3000) (_ : l.length ≤ 40) (h1 : i < l.length) (x : RcX) (raw : Bool) (a0 : Int) (hx : l[i] = ⟨x, true, raw, a0⟩) (u : UInt8) (us : Bl) (a e : Int) (en' : Nat) (hg : goodT []) (hT9 : ([] : List (Bl × Nat)).length ≤ 800000000) (hD : actD en [] a true x = (e, (u :: us), [], en')) : CW Try.prog 0 1 (1 + (Try.f5.ntmps - 1)) none (codeAt (loopAt Try.f5 0) [1, 0, 1, 1, 1, 1, 1, 1, 0]) (lv7Y l c i [] en ck a x f) (stepK Try.prog 0 1 (1 + (Try.f5.ntmps - 1)) none (lv7C l c i [] en' ck e (u :: us))) := by
 obtain ⟨dom, cell, sub, hok, hsh⟩ := fact7 hd i h1 hx
 have hpl : plainL (l.flatMap layA7.g) = true := zAa layA7.g layA7.plain _
 obtain ⟨n, t, k, u0, d⟩ := x
 have hsh : shortB n = true := hsh
 have hok : RcX.ok ⟨n, t, k, u0, d⟩ = true := hok
 refine zAn tbLv2 [0] 1 _ none mixed _ _ _ ?_
 refine ifK (fun _ => ?_) (fun h2 => absurd (dom.symm.trans h2) (by decide))
 refine Exists.intro true (And.intro (cell 5 (by decide)) ?_)
 refine Exists.intro (⟨2, 1, en, [], ck, ⟨a, n, t, k⟩, e, (u :: us), [], en'⟩ : PkY AskY) (And.intro ⟨rfl, (show Tr.get _ 2 = some (AObj.cells [.map (some 1), .int .i64 (en : Int)] _) from rfl), (show Tr.get _ 1 = some (AObj.map (encT []) ck) from rfl), hg, hsh, hD⟩ ?_)
 refine Exists.intro (⟨3, none, en, [], ⟨a, n, t, k⟩, e, (u :: us), [], en'⟩ : RpY AskY) (And.intro ⟨rfl, (show Tr.get _ 3 = some (AObj.cells [.slice none 0 0, .int .i64 (en : Int)] _) from rfl), rfl, hg, (Nat.le_trans hT9 (by decide)), hsh, hD⟩ ?_)
 exact rcq [1, 2, 3, 6, 7] ⟨⟨_, rfl, .sl _ _ _ _ _ rfl⟩, ⟨_, rfl, .ptr _ _ _ rfl⟩, ⟨_, rfl, .ptr _ _ _ rfl⟩, ⟨_, rfl, .int _ _⟩, ⟨_, rfl, .sl _ _ _ _ _ rfl⟩, ⟨_, rfl, .int _ _⟩, ⟨_, rfl, .sl _ _ _ _ _ rfl⟩, ⟨_, rfl, .int _ _⟩, trivial⟩ ⟨bpo (hpl), ⟨by decide, _, rfl, zFl [] ck⟩, ⟨by decide, _, rfl, zAg 1 1 (by exact rfl) _⟩, bpo rfl, bpo (zAb (u :: us)), bpo (zAb (u :: us)), trivial⟩ .nil
theorem lv7v_1011 (l : List A7) (c i en ck : Nat) (f : Nat → Option Value) (hd : ∀ x ∈ l, x.x.ok = true ∧ (bs x.x.n).length ≤ 3000 ∧ (bs x.x.d).length ≤ 3000) (_ : l.length ≤ 40) (h1 : i < l.length) (x : RcX) (raw : Bool) (a0 : Int) (hx : l[i] = ⟨x, true, raw, a0⟩) (u : UInt8) (us : Bl) (p : Bl × Nat) (F : List (Bl × Nat)) (a e : Int) (en' : Nat) (hg : goodT []) (hT9 : ([] : List (Bl × Nat)).length ≤ 800000000) (hD : actD en [] a true x = (e, (u :: us), (p :: F), en')) : CW Try.prog 0 1 (1 + (Try.f5.ntmps - 1)) none (codeAt (loopAt Try.f5 0) [1, 0, 1, 1, 1, 1, 1, 1, 0]) (lv7Y l c i [] en ck a x f) (stepK Try.prog 0 1 (1 + (Try.f5.ntmps - 1)) none (lv7C l c i (p :: F) en' (ck + (F.length + 1)) e (u :: us))) := by
 obtain ⟨dom, cell, sub, hok, hsh⟩ := fact7 hd i h1 hx
 have hpl : plainL (l.flatMap layA7.g) = true := zAa layA7.g layA7.plain _
 obtain ⟨n, t, k, u0, d⟩ := x
 have hsh : shortB n = true := hsh
 have hok : RcX.ok ⟨n, t, k, u0, d⟩ = true := hok
 refine zAn tbLv2 [0] 1 _ none mixed _ _ _ ?_
 refine ifK (fun _ => ?_) (fun h2 => absurd (dom.symm.trans h2) (by decide))
 refine Exists.intro true (And.intro (cell 5 (by decide)) ?_)
 refine Exists.intro (⟨2, 1, en, [], ck, ⟨a, n, t, k⟩, e, (u :: us), (p :: F), en'⟩ : PkY AskY) (And.intro ⟨rfl, (show Tr.get _ 2 = some (AObj.cells [.map (some 1), .int .i64 (en : Int)] _) from rfl), (show Tr.get _ 1 = some (AObj.map (encT []) ck) from rfl), hg, hsh, hD⟩ ?_)
 refine Exists.intro (⟨3, none, en, [], ⟨a, n, t, k⟩, e, (u :: us), (p :: F), en'⟩ : RpY AskY) (And.intro ⟨rfl, (show Tr.get _ 3 = some (AObj.cells [.slice none 0 0, .int .i64 (en : Int)] _) from rfl), rfl, hg, (Nat.le_trans hT9 (by decide)), hsh, hD⟩ ?_)
 exact rcq [1, 2, 3, 8, 6, 7] ⟨⟨_, rfl, .sl _ _ _ _ _ rfl⟩, ⟨_, rfl, .ptr _ _ _ rfl⟩, ⟨_, rfl, .ptr _ _ _ rfl⟩, ⟨_, rfl, .int _ _⟩, ⟨_, rfl, .sl _ _ _ _ _ rfl⟩, ⟨_, rfl, .int _ _⟩, ⟨_, rfl, .sl _ _ _ _ _ rfl⟩, ⟨_, rfl, .int _ _⟩, trivial⟩ ⟨bpo (hpl), ⟨by decide, _, rfl, zAt ((p :: F)) _⟩, ⟨by decide, _, rfl, zAg 1 1 (by exact rfl) _⟩, ⟨by decide, _, rfl, zAr 8 4 (by rfl) rfl _⟩, ⟨by decide, _, rfl, zBb rfl (zAj _)⟩, bpo (zAb (u :: us)), bpo (zAb (u :: us)), trivial⟩ .nil
theorem lv7u_00 (l : List A7) (c i en ck : Nat) (f : Nat → Option Value) (_ : ∀ x ∈ l, x.x.ok = true ∧ (bs x.x.n).length ≤ 3000 ∧ (bs x.x.d).length ≤ 3000) (_ : l.length ≤ 40) (_ : i < l.length) (e : Int) : CW Try.prog 0 1 (1 + (Try.f5.ntmps - 1)) none (codeAt (loopAt Try.f5 0) [1, 0, 1, 1, 1, 1, 1, 1, 1]) (lv7C l c i [] en ck e [] f) (stepK Try.prog 0 1 (1 + (Try.f5.ntmps - 1)) none (lv7E l c i [] en ck)) := by
 have hpl : plainL (l.flatMap layA7.g) = true := zAa layA7.g layA7.plain _
 have h1s : (Try.prog.types[5]).size = 1 := by kernel_rfl
 refine zAn tbLv2 [0] 1 _ none mixed _ _ _ ?_
 refine And.intro (by kernel_rfl) ?_
 refine ifK (fun g => by simp at g) (fun _ => ?_)
 exact rcq [1, 2, 3] ⟨⟨_, rfl, .sl _ _ _ _ _ rfl⟩, ⟨_, rfl, .ptr _ _ _ rfl⟩, ⟨_, rfl, .ptr _ _ _ rfl⟩, ⟨_, rfl, .int _ _⟩, trivial⟩ ⟨bpo (hpl), ⟨by decide, _, rfl, zAt _ _⟩, ⟨by decide, _, rfl, zAg 1 1 (by exact rfl) _⟩, bpo rfl, trivial⟩ .nil
theorem lv7u_01 (l : List A7) (c i en ck : Nat) (f : Nat → Option Value) (_ : ∀ x ∈ l, x.x.ok = true ∧ (bs x.x.n).length ≤ 3000 ∧ (bs x.x.d).length ≤ 3000) (_ : l.length ≤ 40) (_ : i < l.length) (u : UInt8) (us : Bl) (e : Int) : CW Try.prog 0 1 (1 + (Try.f5.ntmps - 1)) none (codeAt (loopAt Try.f5 0) [1, 0, 1, 1, 1, 1, 1, 1, 1]) (lv7C l c i [] en ck e (u :: us) f) (stepK Try.prog 0 1 (1 + (Try.f5.ntmps - 1)) none (lv7E l c i [] en ck)) := by
 have hpl : plainL (l.flatMap layA7.g) = true := zAa layA7.g layA7.plain _
 have h1s : (Try.prog.types[5]).size = 1 := by kernel_rfl
 refine zAn tbLv2 [0] 1 _ none mixed _ _ _ ?_
 refine And.intro (by kernel_rfl) ?_
 refine And.intro ⟨u :: us, 4, 5, rfl, (show Tr.get _ 4 = some (AObj.cells ((u :: us).map byV) _) from rfl), (show Tr.get _ 5 = some (AObj.cells ((u :: us).map byV) _) from rfl)⟩ ?_
 refine ifK (fun g => by simp at g) (fun _ => ?_)
 refine Exists.intro (⟨4, u :: us⟩ : OvX) (And.intro ⟨rfl, (show Tr.get _ 4 = some (AObj.cells ((u :: us).map byV) _) from rfl), List.cons_ne_nil _ _⟩ ?_)
 exact rcq [1, 2, 3] ⟨⟨_, rfl, .sl _ _ _ _ _ rfl⟩, ⟨_, rfl, .ptr _ _ _ rfl⟩, ⟨_, rfl, .ptr _ _ _ rfl⟩, ⟨_, rfl, .int _ _⟩, trivial⟩ ⟨bpo (hpl), ⟨by decide, _, rfl, zAt _ _⟩, ⟨by decide, _, rfl, zAg 1 1 (by exact rfl) _⟩, bpo rfl, trivial⟩ .nil
theorem lv7i_0 (l : List A7) (c i en ck : Nat) (f : Nat → Option Value) (_ : ∀ x ∈ l, x.x.ok = true ∧ (bs x.x.n).length ≤ 3000 ∧ (bs x.x.d).length ≤ 3000) (hl40 : l.length ≤ 40) (h1 : i < l.length) : CW Try.prog 0 1 (1 + (Try.f5.ntmps - 1)) none (codeAt (loopAt Try.f5 0) [1, 1]) (lv7E l c i [] en ck f) (stepK Try.prog 0 1 (1 + (Try.f5.ntmps - 1)) none (lv7E l c (i + 1) [] en ck)) := by
 have hpl : plainL (l.flatMap layA7.g) = true := zAa layA7.g layA7.plain _
 refine zAn tbLv2 [0] 1 _ none mixed _ _ _ ?_
 exact rcq [1, 2, 3] ⟨⟨_, rfl, .sl _ _ _ _ _ rfl⟩, ⟨_, rfl, .ptr _ _ _ rfl⟩, ⟨_, rfl, .ptr _ _ _ rfl⟩, zAe rfl (by rw [wrapN (by omega) (by omega)]; omega), trivial⟩ ⟨bpo (hpl), ⟨by decide, _, rfl, zAt _ _⟩, ⟨by decide, _, rfl, zAg 1 1 (by exact rfl) _⟩, bpo rfl, trivial⟩ .nil
theorem lv7x_1 (l : List A7) (c i en ck : Nat) (f : Nat → Option Value) (_ : ∀ x ∈ l, x.x.ok = true ∧ (bs x.x.n).length ≤ 3000 ∧ (bs x.x.d).length ≤ 3000) (_ : l.length ≤ 40) (h1 : i < l.length) (q : Bl × Nat) (T : List (Bl × Nat)) : CW Try.prog 0 1 (1 + (Try.f5.ntmps - 1)) none (codeAt (loopAt Try.f5 0) [0]) (lv7E l c i (q :: T) en ck f) (stepK Try.prog 0 1 (1 + (Try.f5.ntmps - 1)) none (lv7E l c i (q :: T) en ck)) := by
 have hpl : plainL (l.flatMap layA7.g) = true := zAa layA7.g layA7.plain _
 refine zAn tbLv2 [0] 1 _ none mixed _ _ _ ?_
 refine ifK (fun _ => ?_) (fun g => absurd (show ((i : Nat) : Int) < (l.length : Int) by omega) (of_decide_eq_false g))
 exact rcq [1, 2, 3, 4] ⟨⟨_, rfl, .sl _ _ _ _ _ rfl⟩, ⟨_, rfl, .ptr _ _ _ rfl⟩, ⟨_, rfl, .ptr _ _ _ rfl⟩, ⟨_, rfl, .int _ _⟩, trivial⟩ ⟨bpo (hpl), ⟨by decide, _, rfl, zAt _ _⟩, ⟨by decide, _, rfl, zAg 1 1 (by exact rfl) _⟩, ⟨by decide, _, rfl, zAr 4 4 (by rfl) rfl _⟩, bpo (zAj (q :: T)), trivial⟩ .nil
theorem lv7y_1 (l : List A7) (c i en ck : Nat) (f : Nat → Option Value) (hd : ∀ x ∈ l, x.x.ok = true ∧ (bs x.x.n).length ≤ 3000 ∧ (bs x.x.d).length ≤ 3000) (_ : l.length ≤ 40) (h1 : i < l.length) (x : RcX) (ask raw : Bool) (a0 : Int) (hx : l[i] = ⟨x, ask, raw, a0⟩) (q : Bl × Nat) (T : List (Bl × Nat)) : CW Try.prog 0 1 (1 + (Try.f5.ntmps - 1)) none (codeAt (loopAt Try.f5 0) [1, 0, 0]) (lv7E l c i (q :: T) en ck f) (stepK Try.prog 0 1 (1 + (Try.f5.ntmps - 1)) none (lv7A l c i (q :: T) en ck a0)) := by
 obtain ⟨dom, cell, sub, hok, hsh⟩ := fact7 hd i h1 hx
 have hpl : plainL (l.flatMap layA7.g) = true := zAa layA7.g layA7.plain _
 refine zAn tbLv2 [0] 1 _ none mixed _ _ _ ?_
 refine ifK (fun _ => ?_) (fun h2 => absurd (dom.symm.trans h2) (by decide))
 refine Exists.intro a0 (And.intro (cell 7 (by decide)) ?_)
 exact rcq [1, 2, 3, 4] ⟨⟨_, rfl, .sl _ _ _ _ _ rfl⟩, ⟨_, rfl, .ptr _ _ _ rfl⟩, ⟨_, rfl, .ptr _ _ _ rfl⟩, ⟨_, rfl, .int _ _⟩, ⟨_, rfl, .int _ _⟩, trivial⟩ ⟨bpo (hpl), ⟨by decide, _, rfl, zAt _ _⟩, ⟨by decide, _, rfl, zAg 1 1 (by exact rfl) _⟩, ⟨by decide, _, rfl, zAr 4 4 (by rfl) rfl _⟩, bpo (zAj (q :: T)), trivial⟩ .nil
theorem lv7z_10 (l : List A7) (c i en ck : Nat) (f : Nat → Option Value) (hd : ∀ x ∈ l, x.x.ok = true ∧ (bs x.x.n).length ≤ 3000 ∧ (bs x.x.d).length ≤ 3000) (_ : l.length ≤ 40) (h1 : i < l.length) (x : RcX) (ask : Bool) (a0 : Int) (hx : l[i] = ⟨x, ask, false, a0⟩) (q : Bl × Nat) (T : List (Bl × Nat)) : CW Try.prog 0 1 (1 + (Try.f5.ntmps - 1)) none (codeAt (loopAt Try.f5 0) [1, 0, 1, 0]) (lv7A l c i (q :: T) en ck a0 f) (stepK Try.prog 0 1 (1 + (Try.f5.ntmps - 1)) none (lv7A l c i (q :: T) en ck (IntKind.i64.wrap ((en : Int) + pickI a0 20000)))) := by
 obtain ⟨dom, cell, sub, hok, hsh⟩ := fact7 hd i h1 hx
 have hpl : plainL (l.flatMap layA7.g) = true := zAa layA7.g layA7.plain _
 refine zAn tbLv2 [0] 1 _ none mixed _ _ _ ?_
 refine ifK (fun _ => ?_) (fun h2 => absurd (dom.symm.trans h2) (by decide))
 refine Exists.intro false (And.intro (cell 6 (by decide)) ?_)
 refine And.intro (by kernel_rfl) ?_
 exact rcq [1, 2, 3, 4] ⟨⟨_, rfl, .sl _ _ _ _ _ rfl⟩, ⟨_, rfl, .ptr _ _ _ rfl⟩, ⟨_, rfl, .ptr _ _ _ rfl⟩, ⟨_, rfl, .int _ _⟩, ⟨_, rfl, .int _ _⟩, trivial⟩ ⟨bpo (hpl), ⟨by decide, _, rfl, zAt _ _⟩, ⟨by decide, _, rfl, zAg 1 1 (by exact rfl) _⟩, ⟨by decide, _, rfl, zAr 4 4 (by rfl) rfl _⟩, bpo (zAj (q :: T)), trivial⟩ .nil
theorem lv7z_11 (l : List A7) (c i en ck : Nat) (f : Nat → Option Value) (hd : ∀ x ∈ l, x.x.ok = true ∧ (bs x.x.n).length ≤ 3000 ∧ (bs x.x.d).length ≤ 3000) (_ : l.length ≤ 40) (h1 : i < l.length) (x : RcX) (ask : Bool) (a0 : Int) (hx : l[i] = ⟨x, ask, true, a0⟩) (q : Bl × Nat) (T : List (Bl × Nat)) : CW Try.prog 0 1 (1 + (Try.f5.ntmps - 1)) none (codeAt (loopAt Try.f5 0) [1, 0, 1, 0]) (lv7A l c i (q :: T) en ck a0 f) (stepK Try.prog 0 1 (1 + (Try.f5.ntmps - 1)) none (lv7A l c i (q :: T) en ck a0)) := by
 obtain ⟨dom, cell, sub, hok, hsh⟩ := fact7 hd i h1 hx
 have hpl : plainL (l.flatMap layA7.g) = true := zAa layA7.g layA7.plain _
 refine zAn tbLv2 [0] 1 _ none mixed _ _ _ ?_
 refine ifK (fun _ => ?_) (fun h2 => absurd (dom.symm.trans h2) (by decide))
 refine Exists.intro true (And.intro (cell 6 (by decide)) ?_)
 exact rcq [1, 2, 3, 4] ⟨⟨_, rfl, .sl _ _ _ _ _ rfl⟩, ⟨_, rfl, .ptr _ _ _ rfl⟩, ⟨_, rfl, .ptr _ _ _ rfl⟩, ⟨_, rfl, .int _ _⟩, ⟨_, rfl, .int _ _⟩, trivial⟩ ⟨bpo (hpl), ⟨by decide, _, rfl, zAt _ _⟩, ⟨by decide, _, rfl, zAg 1 1 (by exact rfl) _⟩, ⟨by decide, _, rfl, zAr 4 4 (by rfl) rfl _⟩, bpo (zAj (q :: T)), trivial⟩ .nil
theorem lv7q_1 (l : List A7) (c i en ck : Nat) (f : Nat → Option Value) (hd : ∀ x ∈ l, x.x.ok = true ∧ (bs x.x.n).length ≤ 3000 ∧ (bs x.x.d).length ≤ 3000) (_ : l.length ≤ 40) (h1 : i < l.length) (x : RcX) (ask raw : Bool) (a0 : Int) (hx : l[i] = ⟨x, ask, raw, a0⟩) (q : Bl × Nat) (T : List (Bl × Nat)) (a : Int) : CW Try.prog 0 1 (1 + (Try.f5.ntmps - 1)) none (codeAt (loopAt Try.f5 0) [1, 0, 1, 1, 0]) (lv7A l c i (q :: T) en ck a f) (stepK Try.prog 0 1 (1 + (Try.f5.ntmps - 1)) none (lv7X l c i (q :: T) en ck a x)) := by
 obtain ⟨dom, cell, sub, hok, hsh⟩ := fact7 hd i h1 hx
 have hpl : plainL (l.flatMap layA7.g) = true := zAa layA7.g layA7.plain _
 obtain ⟨n, t, k, u, d⟩ := x
 refine zAn tbLv2 [0] 1 _ none mixed _ _ _ ?_
 refine ifK (fun _ => ?_) (fun h2 => absurd (dom.symm.trans h2) (by decide))
 refine Exists.intro n (Exists.intro t (Exists.intro k (Exists.intro u (Exists.intro d (And.intro sub ?_)))))
 exact rcq [1, 2, 3, 4, 5] ⟨⟨_, rfl, .sl _ _ _ _ _ rfl⟩, ⟨_, rfl, .ptr _ _ _ rfl⟩, ⟨_, rfl, .ptr _ _ _ rfl⟩, ⟨_, rfl, .int _ _⟩, ⟨_, rfl, .int _ _⟩, ⟨_, rfl, .ptr _ _ _ rfl⟩, trivial⟩ ⟨bpo (hpl), ⟨by decide, _, rfl, zAt _ _⟩, ⟨by decide, _, rfl, zAg 1 1 (by exact rfl) _⟩, ⟨by decide, _, rfl, zAr 4 4 (by rfl) rfl _⟩, bpo (zAj (q :: T)), bpo rfl, trivial⟩ .nil
theorem lv7r_1 (l : List A7) (c i en ck : Nat) (f : Nat → Option Value) (_ : ∀ x ∈ l, x.x.ok = true ∧ (bs x.x.n).length ≤ 3000 ∧ (bs x.x.d).length ≤ 3000) (_ : l.length ≤ 40) (_ : i < l.length) (q : Bl × Nat) (T : List (Bl × Nat)) (a : Int) (x : RcX) : CW Try.prog 0 1 (1 + (Try.f5.ntmps - 1)) none (codeAt (loopAt Try.f5 0) [1, 0, 1, 1, 1, 0]) (lv7X l c i (q :: T) en ck a x f) (stepK Try.prog 0 1 (1 + (Try.f5.ntmps - 1)) none (lv7Y l c i (q :: T) en ck a x)) := by
 have hpl : plainL (l.flatMap layA7.g) = true := zAa layA7.g layA7.plain _
 obtain ⟨n, t, k, u, d⟩ := x
 refine zAn tbLv2 [0] 1 _ none mixed _ _ _ ?_
 exact rcq [1, 2, 3, 4, 5, 6] ⟨⟨_, rfl, .sl _ _ _ _ _ rfl⟩, ⟨_, rfl, .ptr _ _ _ rfl⟩, ⟨_, rfl, .ptr _ _ _ rfl⟩, ⟨_, rfl, .int _ _⟩, ⟨_, rfl, .int _ _⟩, ⟨_, rfl, .ptr _ _ _ rfl⟩, ⟨_, rfl, .ptr _ _ _ rfl⟩, trivial⟩ ⟨bpo (hpl), ⟨by decide, _, rfl, zAt _ _⟩, ⟨by decide, _, rfl, zAg 1 1 (by exact rfl) _⟩, ⟨by decide, _, rfl, zAr 4 4 (by rfl) rfl _⟩, bpo (zAj (q :: T)), bpo rfl, bpo rfl, trivial⟩ .nil
theorem lv7s_1 (l : List A7) (c i en ck : Nat) (f : Nat → Option Value) (_ : ∀ x ∈ l, x.x.ok = true ∧ (bs x.x.n).length ≤ 3000 ∧ (bs x.x.d).length ≤ 3000) (_ : l.length ≤ 40) (_ : i < l.length) (q : Bl × Nat) (T : List (Bl × Nat)) (a : Int) (x : RcX) : CW Try.prog 0 1 (1 + (Try.f5.ntmps - 1)) none (codeAt (loopAt Try.f5 0) [1, 0, 1, 1, 1, 1, 0]) (lv7Y l c i (q :: T) en ck a x f) (stepK Try.prog 0 1 (1 + (Try.f5.ntmps - 1)) none (lv7Y l c i (q :: T) en ck a x)) := by
 have hpl : plainL (l.flatMap layA7.g) = true := zAa layA7.g layA7.plain _
 obtain ⟨n, t, k, u, d⟩ := x
 refine zAn tbLv2 [0] 1 _ none mixed _ _ _ ?_
 exact rcq [1, 2, 3, 4, 5, 6] ⟨⟨_, rfl, .sl _ _ _ _ _ rfl⟩, ⟨_, rfl, .ptr _ _ _ rfl⟩, ⟨_, rfl, .ptr _ _ _ rfl⟩, ⟨_, rfl, .int _ _⟩, ⟨_, rfl, .int _ _⟩, ⟨_, rfl, .ptr _ _ _ rfl⟩, ⟨_, rfl, .ptr _ _ _ rfl⟩, trivial⟩ ⟨bpo (hpl), ⟨by decide, _, rfl, zAt _ _⟩, ⟨by decide, _, rfl, zAg 1 1 (by exact rfl) _⟩, ⟨by decide, _, rfl, zAr 4 4 (by rfl) rfl _⟩, bpo (zAj (q :: T)), bpo rfl, bpo rfl, trivial⟩ .nil
theorem lv7t_1 (l : List A7) (c i en ck : Nat) (f : Nat → Option Value) (_ : ∀ x ∈ l, x.x.ok = true ∧ (bs x.x.n).length ≤ 3000 ∧ (bs x.x.d).length ≤ 3000) (_ : l.length ≤ 40) (_ : i < l.length) (q : Bl × Nat) (T : List (Bl × Nat)) (a : Int) (x : RcX) : CW Try.prog 0 1 (1 + (Try.f5.ntmps - 1)) none (codeAt (loopAt Try.f5 0) [1, 0, 1, 1, 1, 1, 1, 0]) (lv7Y l c i (q :: T) en ck a x f) (stepK Try.prog 0 1 (1 + (Try.f5.ntmps - 1)) none (lv7Y l c i (q :: T) en ck a x)) := by
 have hpl : plainL (l.flatMap layA7.g) = true := zAa layA7.g layA7.plain _
 obtain ⟨n, t, k, u, d⟩ := x
 refine zAn tbLv2 [0] 1 _ none mixed _ _ _ ?_
 exact rcq [1, 2, 3, 4, 5, 6] ⟨⟨_, rfl, .sl _ _ _ _ _ rfl⟩, ⟨_, rfl, .ptr _ _ _ rfl⟩, ⟨_, rfl, .ptr _ _ _ rfl⟩, ⟨_, rfl, .int _ _⟩, ⟨_, rfl, .int _ _⟩, ⟨_, rfl, .ptr _ _ _ rfl⟩, ⟨_, rfl, .ptr _ _ _ rfl⟩, trivial⟩ ⟨bpo (hpl), ⟨by decide, _, rfl, zAt _ _⟩, ⟨by decide, _, rfl, zAg 1 1 (by exact rfl) _⟩, ⟨by decide, _, rfl, zAr 4 4 (by rfl) rfl _⟩, bpo (zAj (q :: T)), bpo rfl, bpo rfl, trivial⟩ .nil
theorem lv7v_0100 (l : List A7) (c i en ck : Nat) (f : Nat → Option Value) (hd : ∀ x ∈ l, x.x.ok = true ∧ (bs x.x.n).length ≤ 3000 ∧ (bs x.x.d).length ≤ 3000) (_ : l.length ≤ 40) (h1 : i < l.length) (x : RcX) (raw : Bool) (a0 : Int) (hx : l[i] = ⟨x, false, raw, a0⟩) (q : Bl × Nat) (T : List (Bl × Nat)) (a e : Int) (en' : Nat) (hg : goodT (q :: T)) (hT9 : ((q :: T) : List (Bl × Nat)).length ≤ 800000000) (hD : actD en (q :: T) a false x = (e, [], [], en')) : CW Try.prog 0 1 (1 + (Try.f5.ntmps - 1)) none (codeAt (loopAt Try.f5 0) [1, 0, 1, 1, 1, 1, 1, 1, 0]) (lv7Y l c i (q :: T) en ck a x f) (stepK Try.prog 0 1 (1 + (Try.f5.ntmps - 1)) none (lv7C l c i (q :: T) en' ck e [])) := by
 obtain ⟨dom, cell, sub, hok, hsh⟩ := fact7 hd i h1 hx
 have hpl : plainL (l.flatMap layA7.g) = true := zAa layA7.g layA7.plain _
 obtain ⟨n, t, k, u0, d⟩ := x
 have hsh : shortB n = true := hsh
 have hok : RcX.ok ⟨n, t, k, u0, d⟩ = true := hok
 refine zAn tbLv2 [0] 1 _ none mixed _ _ _ ?_
 refine ifK (fun _ => ?_) (fun h2 => absurd (dom.symm.trans h2) (by decide))
 refine Exists.intro false (And.intro (cell 5 (by decide)) ?_)
 refine Exists.intro (⟨2, 1, en, (q :: T), ck, ⟨a, ⟨n, t, k, u0, d⟩⟩, e, [], [], en'⟩ : PkY WrtY) (And.intro ⟨rfl, (show Tr.get _ 2 = some (AObj.cells [.map (some 1), .int .i64 (en : Int)] _) from rfl), (show Tr.get _ 1 = some (AObj.map (encT (q :: T)) ck) from rfl), hg, hok, hD⟩ ?_)
 refine Exists.intro (⟨3, some 4, en, (q :: T), ⟨a, ⟨n, t, k, u0, d⟩⟩, e, [], [], en'⟩ : RpY WrtY) (And.intro ⟨rfl, (show Tr.get _ 3 = some (AObj.cells [.slice (some ⟨4, 0, none⟩) (q :: T).length U, .int .i64 (en : Int)] _) from rfl), ⟨(show Tr.get _ 4 = some (AObj.cells ((q :: T).flatMap layT.g) _) from rfl), List.cons_ne_nil _ _⟩, hg, hT9, hok, hD⟩ ?_)
 exact rcq [1, 2, 3, 4] ⟨⟨_, rfl, .sl _ _ _ _ _ rfl⟩, ⟨_, rfl, .ptr _ _ _ rfl⟩, ⟨_, rfl, .ptr _ _ _ rfl⟩, ⟨_, rfl, .int _ _⟩, ⟨_, rfl, zAc 8 rfl⟩, ⟨_, rfl, .int _ _⟩, ⟨_, rfl, zAc 8 rfl⟩, ⟨_, rfl, .int _ _⟩, trivial⟩ ⟨bpo (hpl), ⟨by decide, _, rfl, zFl (q :: T) ck⟩, ⟨by decide, _, rfl, zAg 1 1 (by exact rfl) _⟩, ⟨by decide, _, rfl, zAr 4 4 (by rfl) rfl _⟩, bpo (zAj (q :: T)), trivial⟩ .nil
theorem lv7v_0101 (l : List A7) (c i en ck : Nat) (f : Nat → Option Value) (hd : ∀ x ∈ l, x.x.ok = true ∧ (bs x.x.n).length ≤ 3000 ∧ (bs x.x.d).length ≤ 3000) (_ : l.length ≤ 40) (h1 : i < l.length) (x : RcX) (raw : Bool) (a0 : Int) (hx : l[i] = ⟨x, false, raw, a0⟩) (q : Bl × Nat) (T : List (Bl × Nat)) (p : Bl × Nat) (F : List (Bl × Nat)) (a e : Int) (en' : Nat) (hg : goodT (q :: T)) (hT9 : ((q :: T) : List (Bl × Nat)).length ≤ 800000000) (hD : actD en (q :: T) a false x = (e, [], (p :: F), en')) : CW Try.prog 0 1 (1 + (Try.f5.ntmps - 1)) none (codeAt (loopAt Try.f5 0) [1, 0, 1, 1, 1, 1, 1, 1, 0]) (lv7Y l c i (q :: T) en ck a x f) (stepK Try.prog 0 1 (1 + (Try.f5.ntmps - 1)) none (lv7C l c i (q :: (T ++ p :: F)) en' (ck + (F.length + 1)) e [])) := by
 obtain ⟨dom, cell, sub, hok, hsh⟩ := fact7 hd i h1 hx
 have hpl : plainL (l.flatMap layA7.g) = true := zAa layA7.g layA7.plain _
 obtain ⟨n, t, k, u0, d⟩ := x
 have hsh : shortB n = true := hsh
 have hok : RcX.ok ⟨n, t, k, u0, d⟩ = true := hok
 refine zAn tbLv2 [0] 1 _ none mixed _ _ _ ?_
 refine ifK (fun _ => ?_) (fun h2 => absurd (dom.symm.trans h2) (by decide))
 refine Exists.intro false (And.intro (cell 5 (by decide)) ?_)
 refine Exists.intro (⟨2, 1, en, (q :: T), ck, ⟨a, ⟨n, t, k, u0, d⟩⟩, e, [], (p :: F), en'⟩ : PkY WrtY) (And.intro ⟨rfl, (show Tr.get _ 2 = some (AObj.cells [.map (some 1), .int .i64 (en : Int)] _) from rfl), (show Tr.get _ 1 = some (AObj.map (encT (q :: T)) ck) from rfl), hg, hok, hD⟩ ?_)
 refine Exists.intro (⟨3, some 4, en, (q :: T), ⟨a, ⟨n, t, k, u0, d⟩⟩, e, [], (p :: F), en'⟩ : RpY WrtY) (And.intro ⟨rfl, (show Tr.get _ 3 = some (AObj.cells [.slice (some ⟨4, 0, none⟩) (q :: T).length U, .int .i64 (en : Int)] _) from rfl), ⟨(show Tr.get _ 4 = some (AObj.cells ((q :: T).flatMap layT.g) _) from rfl), List.cons_ne_nil _ _⟩, hg, hT9, hok, hD⟩ ?_)
 exact rcq [1, 2, 3, 7] ⟨⟨_, rfl, .sl _ _ _ _ _ rfl⟩, ⟨_, rfl, .ptr _ _ _ rfl⟩, ⟨_, rfl, .ptr _ _ _ rfl⟩, ⟨_, rfl, .int _ _⟩, ⟨_, rfl, zAc 8 rfl⟩, ⟨_, rfl, .int _ _⟩, ⟨_, rfl, zAc 8 rfl⟩, ⟨_, rfl, .int _ _⟩, trivial⟩ ⟨bpo (hpl), ⟨by decide, _, rfl, zAt ((q :: (T ++ p :: F))) _⟩, ⟨by decide, _, rfl, zAg 1 1 (by exact rfl) _⟩, ⟨by decide, _, rfl, zAr 7 4 (by rfl) (by simp <;> omega) _⟩, ⟨by decide, _, rfl, zBb rfl (zAj _)⟩, trivial⟩ .nil
theorem lv7v_0110 (l : List A7) (c i en ck : Nat) (f : Nat → Option Value) (hd : ∀ x ∈ l, x.x.ok = true ∧ (bs x.x.n).length ≤ 3000 ∧ (bs x.x.d).length ≤ 3000) (_ : l.length ≤ 40) (h1 : i < l.length) (x : RcX) (raw : Bool) (a0 : Int) (hx : l[i] = ⟨x, false, raw, a0⟩) (q : Bl × Nat) (T : List (Bl × Nat)) (u : UInt8) (us : Bl) (a e : Int) (en' : Nat) (hg : goodT (q :: T)) (hT9 : ((q :: T) : List (Bl × Nat)).length ≤ 800000000) (hD : actD en (q :: T) a false x = (e, (u :: us), [], en')) : CW Try.prog 0 1 (1 + (Try.f5.ntmps - 1)) none (codeAt (loopAt Try.f5 0) [1, 0, 1, 1, 1, 1, 1, 1, 0]) (lv7Y l c i (q :: T) en ck a x f) (stepK Try.prog 0 1 (1 + (Try.f5.ntmps - 1)) none (lv7C l c i (q :: T) en' ck e (u :: us))) := by
 obtain ⟨dom, cell, sub, hok, hsh⟩ := fact7 hd i h1 hx
 have hpl : plainL (l.flatMap layA7.g) = true := zAa layA7.g layA7.plain _
 obtain ⟨n, t, k, u0, d⟩ := x
 have hsh : shortB n = true := hsh
 have hok : RcX.ok ⟨n, t, k, u0, d⟩ = true := hok
 refine zAn tbLv2 [0] 1 _ none mixed _ _ _ ?_
 refine ifK (fun _ => ?_) (fun h2 => absurd (dom.symm.trans h2) (by decide))
 refine Exists.intro false (And.intro (cell 5 (by decide)) ?_)
 refine Exists.intro (⟨2, 1, en, (q :: T), ck, ⟨a, ⟨n, t, k, u0, d⟩⟩, e, (u :: us), [], en'⟩ : PkY WrtY) (And.intro ⟨rfl, (show Tr.get _ 2 = some (AObj.cells [.map (some 1), .int .i64 (en : Int)] _) from rfl), (show Tr.get _ 1 = some (AObj.map (encT (q :: T)) ck) from rfl), hg, hok, hD⟩ ?_)
 refine Exists.intro (⟨3, some 4, en, (q :: T), ⟨a, ⟨n, t, k, u0, d⟩⟩, e, (u :: us), [], en'⟩ : RpY WrtY) (And.intro ⟨rfl, (show Tr.get _ 3 = some (AObj.cells [.slice (some ⟨4, 0, none⟩) (q :: T).length U, .int .i64 (en : Int)] _) from rfl), ⟨(show Tr.get _ 4 = some (AObj.cells ((q :: T).flatMap layT.g) _) from rfl), List.cons_ne_nil _ _⟩, hg, hT9, hok, hD⟩ ?_)
 exact rcq [1, 2, 3, 4, 7, 8] ⟨⟨_, rfl, .sl _ _ _ _ _ rfl⟩, ⟨_, rfl, .ptr _ _ _ rfl⟩, ⟨_, rfl, .ptr _ _ _ rfl⟩, ⟨_, rfl, .int _ _⟩, ⟨_, rfl, .sl _ _ _ _ _ rfl⟩, ⟨_, rfl, .int _ _⟩, ⟨_, rfl, .sl _ _ _ _ _ rfl⟩, ⟨_, rfl, .int _ _⟩, trivial⟩ ⟨bpo (hpl), ⟨by decide, _, rfl, zFl (q :: T) ck⟩, ⟨by decide, _, rfl, zAg 1 1 (by exact rfl) _⟩, ⟨by decide, _, rfl, zAr 4 4 (by rfl) rfl _⟩, bpo (zAj (q :: T)), bpo (zAb (u :: us)), bpo (zAb (u :: us)), trivial⟩ .nil
theorem lv7v_0111 (l : List A7) (c i en ck : Nat) (f : Nat → Option Value) (hd : ∀ x ∈ l, x.x.ok = true ∧ (bs x.x.n).length ≤ 3000 ∧ (bs x.x.d).length ≤ 3000) (_ : l.length ≤ 40) (h1 : i < l.length) (x : RcX) (raw : Bool) (a0 : Int) (hx : l[i] = ⟨x, false, raw, a0⟩) (q : Bl × Nat) (T : List (Bl × Nat)) (u : UInt8) (us : Bl) (p : Bl × Nat) (F : List (Bl × Nat)) (a e : Int) (en' : Nat) (hg : goodT (q :: T)) (hT9 : ((q :: T) : List (Bl × Nat)).length ≤ 800000000) (hD : actD en (q :: T) a false x = (e, (u :: us), (p :: F), en')) : CW Try.prog 0 1 (1 + (Try.f5.ntmps - 1)) none (codeAt (loopAt Try.f5 0) [1, 0, 1, 1, 1, 1, 1, 1, 0]) (lv7Y l c i (q :: T) en ck a x f) (stepK Try.prog 0 1 (1 + (Try.f5.ntmps - 1)) none (lv7C l c i (q :: (T ++ p :: F)) en' (ck + (F.length + 1)) e (u :: us))) := by
 obtain ⟨dom, cell, sub, hok, hsh⟩ := fact7 hd i h1 hx
 have hpl : plainL (l.flatMap layA7.g) = true := zAa layA7.g layA7.plain _
 obtain ⟨n, t, k, u0, d⟩ := x
 have hsh : shortB n = true := hsh
 have hok : RcX.ok ⟨n, t, k, u0, d⟩ = true := hok
 refine zAn tbLv2 [0] 1 _ none mixed _ _ _ ?_
 refine ifK (fun _ => ?_) (fun h2 => absurd (dom.symm.trans h2) (by decide))
 refine Exists.intro false (And.intro (cell 5 (by decide)) ?_)
 refine Exists.intro (⟨2, 1, en, (q :: T), ck, ⟨a, ⟨n, t, k, u0, d⟩⟩, e, (u :: us), (p :: F), en'⟩ : PkY WrtY) (And.intro ⟨rfl, (show Tr.get _ 2 = some (AObj.cells [.map (some 1), .int .i64 (en : Int)] _) from rfl), (show Tr.get _ 1 = some (AObj.map (encT (q :: T)) ck) from rfl), hg, hok, hD⟩ ?_)
 refine Exists.intro (⟨3, some 4, en, (q :: T), ⟨a, ⟨n, t, k, u0, d⟩⟩, e, (u :: us), (p :: F), en'⟩ : RpY WrtY) (And.intro ⟨rfl, (show Tr.get _ 3 = some (AObj.cells [.slice (some ⟨4, 0, none⟩) (q :: T).length U, .int .i64 (en : Int)] _) from rfl), ⟨(show Tr.get _ 4 = some (AObj.cells ((q :: T).flatMap layT.g) _) from rfl), List.cons_ne_nil _ _⟩, hg, hT9, hok, hD⟩ ?_)
 exact rcq [1, 2, 3, 9, 7, 8] ⟨⟨_, rfl, .sl _ _ _ _ _ rfl⟩, ⟨_, rfl, .ptr _ _ _ rfl⟩, ⟨_, rfl, .ptr _ _ _ rfl⟩, ⟨_, rfl, .int _ _⟩, ⟨_, rfl, .sl _ _ _ _ _ rfl⟩, ⟨_, rfl, .int _ _⟩, ⟨_, rfl, .sl _ _ _ _ _ rfl⟩, ⟨_, rfl, .int _ _⟩, trivial⟩ ⟨bpo (hpl), ⟨by decide, _, rfl, zAt ((q :: (T ++ p :: F))) _⟩, ⟨by decide, _, rfl, zAg 1 1 (by exact rfl) _⟩, ⟨by decide, _, rfl, zAr 9 4 (by rfl) (by simp <;> omega) _⟩, ⟨by decide, _, rfl, zBb rfl (zAj _)⟩, bpo (zAb (u :: us)), bpo (zAb (u :: us)), trivial⟩ .nil
theorem lv7v_1100 (l : List A7) (c i en ck : Nat) (f : Nat → Option Value) (hd : ∀ x ∈ l, x.x.ok = true ∧ (bs x.x.n).length ≤ 3000 ∧ (bs x.x.d).length ≤ 3000) (_ : l.length ≤ 40) (h1 : i < l.length) (x : RcX) (raw : Bool) (a0 : Int) (hx : l[i] = ⟨x, true, raw, a0⟩) (q : Bl × Nat) (T : List (Bl × Nat)) (a e : Int) (en' : Nat) (hg : goodT (q :: T)) (hT9 : ((q :: T) : List (Bl × Nat)).length ≤ 800000000) (hD : actD en (q :: T) a true x = (e, [], [], en')) : CW Try.prog 0 1 (1 + (Try.f5.ntmps - 1)) none (codeAt (loopAt Try.f5 0) [1, 0, 1, 1, 1, 1, 1, 1, 0]) (lv7Y l c i (q :: T) en ck a x f) (stepK Try.prog 0 1 (1 + (Try.f5.ntmps - 1)) none (lv7C l c i (q :: T) en' ck e [])) := by
 obtain ⟨dom, cell, sub, hok, hsh⟩ := fact7 hd i h1 hx
 have hpl : plainL (l.flatMap layA7.g) = true := zAa layA7.g layA7.plain _
 obtain ⟨n, t, k, u0, d⟩ := x
 have hsh : shortB n = true := hsh
 have hok : RcX.ok ⟨n, t, k, u0, d⟩ = true := hok
 refine zAn tbLv2 [0] 1 _ none mixed _ _ _ ?_
 refine ifK (fun _ => ?_) (fun h2 => absurd (dom.symm.trans h2) (by decide))
 refine Exists.intro true (And.intro (cell 5 (by decide)) ?_)
 refine Exists.intro (⟨2, 1, en, (q :: T), ck, ⟨a, n, t, k⟩, e, [], [], en'⟩ : PkY AskY) (And.intro ⟨rfl, (show Tr.get _ 2 = some (AObj.cells [.map (some 1), .int .i64 (en : Int)] _) from rfl), (show Tr.get _ 1 = some (AObj.map (encT (q :: T)) ck) from rfl), hg, hsh, hD⟩ ?_)
 refine Exists.intro (⟨3, some 4, en, (q :: T), ⟨a, n, t, k⟩, e, [], [], en'⟩ : RpY AskY) (And.intro ⟨rfl, (show Tr.get _ 3 = some (AObj.cells [.slice (some ⟨4, 0, none⟩) (q :: T).length U, .int .i64 (en : Int)] _) from rfl), ⟨(show Tr.get _ 4 = some (AObj.cells ((q :: T).flatMap layT.g) _) from rfl), List.cons_ne_nil _ _⟩, hg, (Nat.le_trans hT9 (by decide)), hsh, hD⟩ ?_)
 exact rcq [1, 2, 3, 4] ⟨⟨_, rfl, .sl _ _ _ _ _ rfl⟩, ⟨_, rfl, .ptr _ _ _ rfl⟩, ⟨_, rfl, .ptr _ _ _ rfl⟩, ⟨_, rfl, .int _ _⟩, ⟨_, rfl, zAc 8 rfl⟩, ⟨_, rfl, .int _ _⟩, ⟨_, rfl, zAc 8 rfl⟩, ⟨_, rfl, .int _ _⟩, trivial⟩ ⟨bpo (hpl), ⟨by decide, _, rfl, zFl (q :: T) ck⟩, ⟨by decide, _, rfl, zAg 1 1 (by exact rfl) _⟩, ⟨by decide, _, rfl, zAr 4 4 (by rfl) rfl _⟩, bpo (zAj (q :: T)), trivial⟩ .nil
theorem lv7v_1101 (l : List A7) (c i en ck : Nat) (f : Nat → Option Value) (hd : ∀ x ∈ l, x.x.ok = true ∧ (bs x.x.n).length ≤ 3000 ∧ (bs x.x.d).length ≤ 3000) (_ : l.length ≤ 40) (h1 : i < l.length) (x : RcX) (raw : Bool) (a0 : Int) (hx : l[i] = ⟨x, true, raw, a0⟩) (q : Bl × Nat) (T : List (Bl × Nat)) (p : Bl × Nat) (F : List (Bl × Nat)) (a e : Int) (en' : Nat) (hg : goodT (q :: T)) (hT9 : ((q :: T) : List (Bl × Nat)).length ≤ 800000000) (hD : actD en (q :: T) a true x = (e, [], (p :: F), en')) : CW Try.prog 0 1 (1 + (Try.f5.ntmps - 1)) none (codeAt (loopAt Try.f5 0) [1, 0, 1, 1, 1, 1, 1, 1, 0]) (lv7Y l c i (q :: T) en ck a x f) (stepK Try.prog 0 1 (1 + (Try.f5.ntmps - 1)) none (lv7C l c i (q :: (T ++ p :: F)) en' (ck + (F.length + 1)) e [])) := by
 obtain ⟨dom, cell, sub, hok, hsh⟩ := fact7 hd i h1 hx
 have hpl : plainL (l.flatMap layA7.g) = true := zAa layA7.g layA7.plain _
 obtain ⟨n, t, k, u0, d⟩ := x
 have hsh : shortB n = true := hsh
 have hok : RcX.ok ⟨n, t, k, u0, d⟩ = true := hok
 refine zAn tbLv2 [0] 1 _ none mixed _ _ _ ?_
 refine ifK (fun _ => ?_) (fun h2 => absurd (dom.symm.trans h2) (by decide))
 refine Exists.intro true (And.intro (cell 5 (by decide)) ?_)
 refine Exists.intro (⟨2, 1, en, (q :: T), ck, ⟨a, n, t, k⟩, e, [], (p :: F), en'⟩ : PkY AskY) (And.intro ⟨rfl, (show Tr.get _ 2 = some (AObj.cells [.map (some 1), .int .i64 (en : Int)] _) from rfl), (show Tr.get _ 1 = some (AObj.map (encT (q :: T)) ck) from rfl), hg, hsh, hD⟩ ?_)
 refine Exists.intro (⟨3, some 4, en, (q :: T), ⟨a, n, t, k⟩, e, [], (p :: F), en'⟩ : RpY AskY) (And.intro ⟨rfl, (show Tr.get _ 3 = some (AObj.cells [.slice (some ⟨4, 0, none⟩) (q :: T).length U, .int .i64 (en : Int)] _) from rfl), ⟨(show Tr.get _ 4 = some (AObj.cells ((q :: T).flatMap layT.g) _) from rfl), List.cons_ne_nil _ _⟩, hg, (Nat.le_trans hT9 (by decide)), hsh, hD⟩ ?_)
 exact rcq [1, 2, 3, 7] ⟨⟨_, rfl, .sl _ _ _ _ _ rfl⟩, ⟨_, rfl, .ptr _ _ _ rfl⟩, ⟨_, rfl, .ptr _ _ _ rfl⟩, ⟨_, rfl, .int _ _⟩, ⟨_, rfl, zAc 8 rfl⟩, ⟨_, rfl, .int _ _⟩, ⟨_, rfl, zAc 8 rfl⟩, ⟨_, rfl, .int _ _⟩, trivial⟩ ⟨bpo (hpl), ⟨by decide, _, rfl, zAt ((q :: (T ++ p :: F))) _⟩, ⟨by decide, _, rfl, zAg 1 1 (by exact rfl) _⟩, ⟨by decide, _, rfl, zAr 7 4 (by rfl) (by simp <;> omega) _⟩, ⟨by decide, _, rfl, zBb rfl (zAj _)⟩, trivial⟩ .nil
theorem lv7v_1110 (l : List A7) (c i en ck : Nat) (f : Nat → Option Value) (hd : ∀ x ∈ l, x.x.ok = true ∧ (bs x.x.n).length ≤ 3000 ∧ (bs x.x.d).length ≤ 3000) (_ : l.length ≤ 40) (h1 : i < l.length) (x : RcX) (raw : Bool) (a0 : Int) (hx : l[i] = ⟨x, true, raw, a0⟩) (q : Bl × Nat) (T : List (Bl × Nat)) (u : UInt8) (us : Bl) (a e : Int) (en' : Nat) (hg : goodT (q :: T)) (hT9 : ((q :: T) : List (Bl × Nat)).length ≤ 800000000) (hD : actD en (q :: T) a true x = (e, (u :: us), [], en')) : CW Try.prog 0 1 (1 + (Try.f5.ntmps - 1)) none (codeAt (loopAt Try.f5 0) [1, 0, 1, 1, 1, 1, 1, 1, 0]) (lv7Y l c i (q :: T) en ck a x f) (stepK Try.prog 0 1 (1 + (Try.f5.ntmps - 1)) none (lv7C l c i (q :: T) en' ck e (u :: us))) := by
 obtain ⟨dom, cell, sub, hok, hsh⟩ := fact7 hd i h1 hx
 have hpl : plainL (l.flatMap layA7.g) = true := zAa layA7.g layA7.plain _
 obtain ⟨n, t, k, u0, d⟩ := x
 have hsh : shortB n = true := hsh
 have hok : RcX.ok ⟨n, t, k, u0, d⟩ = true := hok
 refine zAn tbLv2 [0] 1 _ none mixed _ _ _ ?_
 refine ifK (fun _ => ?_) (fun h2 => absurd (dom.symm.trans h2) (by decide))
 refine Exists.intro true (And.intro (cell 5 (by decide)) ?_)
 refine Exists.intro (⟨2, 1, en, (q :: T), ck, ⟨a, n, t, k⟩, e, (u :: us), [], en'⟩ : PkY AskY) (And.intro ⟨rfl, (show Tr.get _ 2 = some (AObj.cells [.map (some 1), .int .i64 (en : Int)] _) from rfl), (show Tr.get _ 1 = some (AObj.map (encT (q :: T)) ck) from rfl), hg, hsh, hD⟩ ?_)
 refine Exists.intro (⟨3, some 4, en, (q :: T), ⟨a, n, t, k⟩, e, (u :: us), [], en'⟩ : RpY AskY) (And.intro ⟨rfl, (show Tr.get _ 3 = some (AObj.cells [.slice (some ⟨4, 0, none⟩) (q :: T).length U, .int .i64 (en : Int)] _) from rfl), ⟨(show Tr.get _ 4 = some (AObj.cells ((q :: T).flatMap layT.g) _) from rfl), List.cons_ne_nil _ _⟩, hg, (Nat.le_trans hT9 (by decide)), hsh, hD⟩ ?_)
 exact rcq [1, 2, 3, 4, 7, 8] ⟨⟨_, rfl, .sl _ _ _ _ _ rfl⟩, ⟨_, rfl, .ptr _ _ _ rfl⟩, ⟨_, rfl, .ptr _ _ _ rfl⟩, ⟨_, rfl, .int _ _⟩, ⟨_, rfl, .sl _ _ _ _ _ rfl⟩, ⟨_, rfl, .int _ _⟩, ⟨_, rfl, .sl _ _ _ _ _ rfl⟩, ⟨_, rfl, .int _ _⟩, trivial⟩ ⟨bpo (hpl), ⟨by decide, _, rfl, zFl (q :: T) ck⟩, ⟨by decide, _, rfl, zAg 1 1 (by exact rfl) _⟩, ⟨by decide, _, rfl, zAr 4 4 (by rfl) rfl _⟩, bpo (zAj (q :: T)), bpo (zAb (u :: us)), bpo (zAb (u :: us)), trivial⟩ .nil
theorem lv7v_1111 (l : List A7) (c i en ck : Nat) (f : Nat → Option Value) (hd : ∀ x ∈ l, x.x.ok = true ∧ (bs x.x.n).length ≤ 3000 ∧ (bs x.x.d).length ≤ 3000) (_ : l.length ≤ 40) (h1 : i < l.length) (x : RcX) (raw : Bool) (a0 : Int) (hx : l[i] = ⟨x, true, raw, a0⟩) (q : Bl × Nat) (T : List (Bl × Nat)) (u : UInt8) (us : Bl) (p : Bl × Nat) (F : List (Bl × Nat)) (a e : Int) (en' : Nat) (hg : goodT (q :: T)) (hT9 : ((q :: T) : List (Bl × Nat)).length ≤ 800000000) (hD : actD en (q :: T) a true x = (e, (u :: us), (p :: F), en')) : CW Try.prog 0 1 (1 + (Try.f5.ntmps - 1)) none (codeAt (loopAt Try.f5 0) [1, 0, 1, 1, 1, 1, 1, 1, 0]) (lv7Y l c i (q :: T) en ck a x f) (stepK Try.prog 0 1 (1 + (Try.f5.ntmps - 1)) none (lv7C l c i (q :: (T ++ p :: F)) en' (ck + (F.length + 1)) e (u :: us))) := by
 obtain ⟨dom, cell, sub, hok, hsh⟩ := fact7 hd i h1 hx
 have hpl : plainL (l.flatMap layA7.g) = true := zAa layA7.g layA7.plain _
 obtain ⟨n, t, k, u0, d⟩ := x
 have hsh : shortB n = true := hsh
 have hok : RcX.ok ⟨n, t, k, u0, d⟩ = true := hok
 refine zAn tbLv2 [0] 1 _ none mixed _ _ _ ?_
 refine ifK (fun _ => ?_) (fun h2 => absurd (dom.symm.trans h2) (by decide))
 refine Exists.intro true (And.intro (cell 5 (by decide)) ?_)
 refine Exists.intro (⟨2, 1, en, (q :: T), ck, ⟨a, n, t, k⟩, e, (u :: us), (p :: F), en'⟩ : PkY AskY) (And.intro ⟨rfl, (show Tr.get _ 2 = some (AObj.cells [.map (some 1), .int .i64 (en : Int)] _) from rfl), (show Tr.get _ 1 = some (AObj.map (encT (q :: T)) ck) from rfl), hg, hsh, hD⟩ ?_)
 refine Exists.intro (⟨3, some 4, en, (q :: T), ⟨a, n, t, k⟩, e, (u :: us), (p :: F), en'⟩ : RpY AskY) (And.intro ⟨rfl, (show Tr.get _ 3 = some (AObj.cells [.slice (some ⟨4, 0, none⟩) (q :: T).length U, .int .i64 (en : Int)] _) from rfl), ⟨(show Tr.get _ 4 = some (AObj.cells ((q :: T).flatMap layT.g) _) from rfl), List.cons_ne_nil _ _⟩, hg, (Nat.le_trans hT9 (by decide)), hsh, hD⟩ ?_)
 exact rcq [1, 2, 3, 9, 7, 8] ⟨⟨_, rfl, .sl _ _ _ _ _ rfl⟩, ⟨_, rfl, .ptr _ _ _ rfl⟩, ⟨_, rfl, .ptr _ _ _ rfl⟩, ⟨_, rfl, .int _ _⟩, ⟨_, rfl, .sl _ _ _ _ _ rfl⟩, ⟨_, rfl, .int _ _⟩, ⟨_, rfl, .sl _ _ _ _ _ rfl⟩, ⟨_, rfl, .int _ _⟩, trivial⟩ ⟨bpo (hpl), ⟨by decide, _, rfl, zAt ((q :: (T ++ p :: F))) _⟩, ⟨by decide, _, rfl, zAg 1 1 (by exact rfl) _⟩, ⟨by decide, _, rfl, zAr 9 4 (by rfl) (by simp <;> omega) _⟩, ⟨by decide, _, rfl, zBb rfl (zAj _)⟩, bpo (zAb (u :: us)), bpo (zAb (u :: us)), trivial⟩ .nil
theorem lv7u_10 (l : List A7) (c i en ck : Nat) (f : Nat → Option Value) (_ : ∀ x ∈ l, x.x.ok = true ∧ (bs x.x.n).length ≤ 3000 ∧ (bs x.x.d).length ≤ 3000) (_ : l.length ≤ 40) (_ : i < l.length) (q : Bl × Nat) (T : List (Bl × Nat)) (e : Int) : CW Try.prog 0 1 (1 + (Try.f5.ntmps - 1)) none (codeAt (loopAt Try.f5 0) [1, 0, 1, 1, 1, 1, 1, 1, 1]) (lv7C l c i (q :: T) en ck e [] f) (stepK Try.prog 0 1 (1 + (Try.f5.ntmps - 1)) none (lv7E l c i (q :: T) en ck)) := by
 have hpl : plainL (l.flatMap layA7.g) = true := zAa layA7.g layA7.plain _
 have h1s : (Try.prog.types[5]).size = 1 := by kernel_rfl
 refine zAn tbLv2 [0] 1 _ none mixed _ _ _ ?_
 refine And.intro (by kernel_rfl) ?_
 refine ifK (fun g => by simp at g) (fun _ => ?_)
 refine ifK (fun g => by simp [zTe] at g) (fun _ => ?_)
 exact rcq [1, 2, 3, 4] ⟨⟨_, rfl, .sl _ _ _ _ _ rfl⟩, ⟨_, rfl, .ptr _ _ _ rfl⟩, ⟨_, rfl, .ptr _ _ _ rfl⟩, ⟨_, rfl, .int _ _⟩, trivial⟩ ⟨bpo (hpl), ⟨by decide, _, rfl, zAt _ _⟩, ⟨by decide, _, rfl, zAg 1 1 (by exact rfl) _⟩, ⟨by decide, _, rfl, zAr 4 4 (by rfl) rfl _⟩, bpo (zAj (q :: T)), trivial⟩ .nil
theorem lv7u_11 (l : List A7) (c i en ck : Nat) (f : Nat → Option Value) (_ : ∀ x ∈ l, x.x.ok = true ∧ (bs x.x.n).length ≤ 3000 ∧ (bs x.x.d).length ≤ 3000) (_ : l.length ≤ 40) (_ : i < l.length) (q : Bl × Nat) (T : List (Bl × Nat)) (u : UInt8) (us : Bl) (e : Int) : CW Try.prog 0 1 (1 + (Try.f5.ntmps - 1)) none (codeAt (loopAt Try.f5 0) [1, 0, 1, 1, 1, 1, 1, 1, 1]) (lv7C l c i (q :: T) en ck e (u :: us) f) (stepK Try.prog 0 1 (1 + (Try.f5.ntmps - 1)) none (lv7E l c i (q :: T) en ck)) := by
 have hpl : plainL (l.flatMap layA7.g) = true := zAa layA7.g layA7.plain _
 have h1s : (Try.prog.types[5]).size = 1 := by kernel_rfl
 refine zAn tbLv2 [0] 1 _ none mixed _ _ _ ?_
 refine And.intro (by kernel_rfl) ?_
 refine And.intro ⟨u :: us, 5, 6, rfl, (show Tr.get _ 5 = some (AObj.cells ((u :: us).map byV) _) from rfl), (show Tr.get _ 6 = some (AObj.cells ((u :: us).map byV) _) from rfl)⟩ ?_
 refine ifK (fun g => by simp at g) (fun _ => ?_)
 refine ifK (fun g => by simp [zTe] at g) (fun _ => ?_)
 refine Exists.intro (⟨5, u :: us⟩ : OvX) (And.intro ⟨rfl, (show Tr.get _ 5 = some (AObj.cells ((u :: us).map byV) _) from rfl), List.cons_ne_nil _ _⟩ ?_)
 exact rcq [1, 2, 3, 4] ⟨⟨_, rfl, .sl _ _ _ _ _ rfl⟩, ⟨_, rfl, .ptr _ _ _ rfl⟩, ⟨_, rfl, .ptr _ _ _ rfl⟩, ⟨_, rfl, .int _ _⟩, trivial⟩ ⟨bpo (hpl), ⟨by decide, _, rfl, zAt _ _⟩, ⟨by decide, _, rfl, zAg 1 1 (by exact rfl) _⟩, ⟨by decide, _, rfl, zAr 4 4 (by rfl) rfl _⟩, bpo (zAj (q :: T)), trivial⟩ .nil
theorem lv7i_1 (l : List A7) (c i en ck : Nat) (f : Nat → Option Value) (_ : ∀ x ∈ l, x.x.ok = true ∧ (bs x.x.n).length ≤ 3000 ∧ (bs x.x.d).length ≤ 3000) (hl40 : l.length ≤ 40) (h1 : i < l.length) (q : Bl × Nat) (T : List (Bl × Nat)) : CW Try.prog 0 1 (1 + (Try.f5.ntmps - 1)) none (codeAt (loopAt Try.f5 0) [1, 1]) (lv7E l c i (q :: T) en ck f) (stepK Try.prog 0 1 (1 + (Try.f5.ntmps - 1)) none (lv7E l c (i + 1) (q :: T) en ck)) := by
 have hpl : plainL (l.flatMap layA7.g) = true := zAa layA7.g layA7.plain _
 refine zAn tbLv2 [0] 1 _ none mixed _ _ _ ?_
 exact rcq [1, 2, 3, 4] ⟨⟨_, rfl, .sl _ _ _ _ _ rfl⟩, ⟨_, rfl, .ptr _ _ _ rfl⟩, ⟨_, rfl, .ptr _ _ _ rfl⟩, zAe rfl (by rw [wrapN (by omega) (by omega)]; omega), trivial⟩ ⟨bpo (hpl), ⟨by decide, _, rfl, zAt _ _⟩, ⟨by decide, _, rfl, zAg 1 1 (by exact rfl) _⟩, ⟨by decide, _, rfl, zAr 4 4 (by rfl) rfl _⟩, bpo (zAj (q :: T)), trivial⟩ .nil
end Go.Proofs.Ytmpaeabkdhjamaa
namespace Go.Proofs.Ytmpaeabkdhjamaa
open Go Go.RowKit
theorem lv7xg (l : List A7) (c i en ck : Nat) (f : Nat → Option Value) (hd : ∀ x ∈ l, x.x.ok = true ∧ (bs x.x.n).length ≤ 3000 ∧ (bs x.x.d).length ≤ 3000) (hl40 : l.length ≤ 40) (h1 : i < l.length) (T : List (Bl × Nat)) : CW Try.prog 0 1 (1 + (Try.f5.ntmps - 1)) none (codeAt (loopAt Try.f5 0) [0]) (lv7E l c i T en ck f) (stepK Try.prog 0 1 (1 + (Try.f5.ntmps - 1)) none (lv7E l c i T en ck)) := by
 cases T
 ·exact lv7x_0 l c i en ck f hd hl40 h1
 ·exact lv7x_1 l c i en ck f hd hl40 h1 _ _
theorem lv7ig (l : List A7) (c i en ck : Nat) (f : Nat → Option Value) (hd : ∀ x ∈ l, x.x.ok = true ∧ (bs x.x.n).length ≤ 3000 ∧ (bs x.x.d).length ≤ 3000) (hl40 : l.length ≤ 40) (h1 : i < l.length) (T : List (Bl × Nat)) : CW Try.prog 0 1 (1 + (Try.f5.ntmps - 1)) none (codeAt (loopAt Try.f5 0) [1, 1]) (lv7E l c i T en ck f) (stepK Try.prog 0 1 (1 + (Try.f5.ntmps - 1)) none (lv7E l c (i + 1) T en ck)) := by
 cases T
 ·exact lv7i_0 l c i en ck f hd hl40 h1
 ·exact lv7i_1 l c i en ck f hd hl40 h1 _ _
theorem lv7yg (l : List A7) (c i en ck : Nat) (f : Nat → Option Value) (hd : ∀ x ∈ l, x.x.ok = true ∧ (bs x.x.n).length ≤ 3000 ∧ (bs x.x.d).length ≤ 3000) (hl40 : l.length ≤ 40) (h1 : i < l.length) (x : RcX) (ask raw : Bool) (a0 : Int) (hx : l[i] = ⟨x, ask, raw, a0⟩) (T : List (Bl × Nat)) : CW Try.prog 0 1 (1 + (Try.f5.ntmps - 1)) none (codeAt (loopAt Try.f5 0) [1, 0, 0]) (lv7E l c i T en ck f) (stepK Try.prog 0 1 (1 + (Try.f5.ntmps - 1)) none (lv7A l c i T en ck a0)) := by
 cases T
 ·exact lv7y_0 l c i en ck f hd hl40 h1 x ask raw a0 hx
 ·exact lv7y_1 l c i en ck f hd hl40 h1 x ask raw a0 hx _ _
theorem lv7zg (l : List A7) (c i en ck : Nat) (f : Nat → Option Value) (hd : ∀ x ∈ l, x.x.ok = true ∧ (bs x.x.n).length ≤ 3000 ∧ (bs x.x.d).length ≤ 3000) (hl40 : l.length ≤ 40) (h1 : i < l.length) (x : RcX) (ask raw : Bool) (a0 : Int) (hx : l[i] = ⟨x, ask, raw, a0⟩) (T : List (Bl × Nat)) (a : Int) (ha : a = bif raw then a0 else IntKind.i64.wrap ((en : Int) + pickI a0 20000)) : CW Try.prog 0 1 (1 + (Try.f5.ntmps - 1)) none (codeAt (loopAt Try.f5 0) [1, 0, 1, 0]) (lv7A l c i T en ck a0 f) (stepK Try.prog 0 1 (1 + (Try.f5.ntmps - 1)) none (lv7A l c i T en ck a)) := by
 subst ha
 cases T <;> cases raw
 ·exact lv7z_00 l c i en ck f hd hl40 h1 x ask a0 hx
 ·exact lv7z_01 l c i en ck f hd hl40 h1 x ask a0 hx
 ·exact lv7z_10 l c i en ck f hd hl40 h1 x ask a0 hx _ _
 ·exact lv7z_11 l c i en ck f hd hl40 h1 x ask a0 hx _ _
theorem lv7qg (l : List A7) (c i en ck : Nat) (f : Nat → Option Value) (hd : ∀ x ∈ l, x.x.ok = true ∧ (bs x.x.n).length ≤ 3000 ∧ (bs x.x.d).length ≤ 3000) (hl40 : l.length ≤ 40) (h1 : i < l.length) (x : RcX) (ask raw : Bool) (a0 : Int) (hx : l[i] = ⟨x, ask, raw, a0⟩) (a : Int) (T : List (Bl × Nat)) : CW Try.prog 0 1 (1 + (Try.f5.ntmps - 1)) none (codeAt (loopAt Try.f5 0) [1, 0, 1, 1, 0]) (lv7A l c i T en ck a f) (stepK Try.prog 0 1 (1 + (Try.f5.ntmps - 1)) none (lv7X l c i T en ck a x)) := by
 cases T
 ·exact lv7q_0 l c i en ck f hd hl40 h1 x ask raw a0 hx a
 ·exact lv7q_1 l c i en ck f hd hl40 h1 x ask raw a0 hx _ _ a
theorem lv7rg (l : List A7) (c i en ck : Nat) (f : Nat → Option Value) (hd : ∀ x ∈ l, x.x.ok = true ∧ (bs x.x.n).length ≤ 3000 ∧ (bs x.x.d).length ≤ 3000) (hl40 : l.length ≤ 40) (h1 : i < l.length) (a : Int) (x : RcX) (T : List (Bl × Nat)) : CW Try.prog 0 1 (1 + (Try.f5.ntmps - 1)) none (codeAt (loopAt Try.f5 0) [1, 0, 1, 1, 1, 0]) (lv7X l c i T en ck a x f) (stepK Try.prog 0 1 (1 + (Try.f5.ntmps - 1)) none (lv7Y l c i T en ck a x)) := by
 cases T
 ·exact lv7r_0 l c i en ck f hd hl40 h1 a x
 ·exact lv7r_1 l c i en ck f hd hl40 h1 _ _ a x
theorem lv7sg (l : List A7) (c i en ck : Nat) (f : Nat → Option Value) (hd : ∀ x ∈ l, x.x.ok = true ∧ (bs x.x.n).length ≤ 3000 ∧ (bs x.x.d).length ≤ 3000) (hl40 : l.length ≤ 40) (h1 : i < l.length) (a : Int) (x : RcX) (T : List (Bl × Nat)) : CW Try.prog 0 1 (1 + (Try.f5.ntmps - 1)) none (codeAt (loopAt Try.f5 0) [1, 0, 1, 1, 1, 1, 0]) (lv7Y l c i T en ck a x f) (stepK Try.prog 0 1 (1 + (Try.f5.ntmps - 1)) none (lv7Y l c i T en ck a x)) := by
 cases T
 ·exact lv7s_0 l c i en ck f hd hl40 h1 a x
 ·exact lv7s_1 l c i en ck f hd hl40 h1 _ _ a x
theorem lv7tg (l : List A7) (c i en ck : Nat) (f : Nat → Option Value) (hd : ∀ x ∈ l, x.x.ok = true ∧ (bs x.x.n).length ≤ 3000 ∧ (bs x.x.d).length ≤ 3000) (hl40 : l.length ≤ 40) (h1 : i < l.length) (a : Int) (x : RcX) (T : List (Bl × Nat)) : CW Try.prog 0 1 (1 + (Try.f5.ntmps - 1)) none (codeAt (loopAt Try.f5 0) [1, 0, 1, 1, 1, 1, 1, 0]) (lv7Y l c i T en ck a x f) (stepK Try.prog 0 1 (1 + (Try.f5.ntmps - 1)) none (lv7Y l c i T en ck a x)) := by
 cases T
 ·exact lv7t_0 l c i en ck f hd hl40 h1 a x
 ·exact lv7t_1 l c i en ck f hd hl40 h1 _ _ a x
theorem lv7vg (l : List A7) (c i en ck : Nat) (f : Nat → Option Value) (hd : ∀ x ∈ l, x.x.ok = true ∧ (bs x.x.n).length ≤ 3000 ∧ (bs x.x.d).length ≤ 3000) (hl40 : l.length ≤ 40) (h1 : i < l.length) (x : RcX) (ask raw : Bool) (a0 : Int) (hx : l[i] = ⟨x, ask, raw, a0⟩) (T : List (Bl × Nat)) (o : Bl) (F : List (Bl × Nat)) (a e : Int) (en' : Nat) (hg : goodT T) (hT9 : T.length ≤ 800000000) (hD : actD en T a ask x = (e, o, F, en')) : CW Try.prog 0 1 (1 + (Try.f5.ntmps - 1)) none (codeAt (loopAt Try.f5 0) [1, 0, 1, 1, 1, 1, 1, 1, 0]) (lv7Y l c i T en ck a x f) (stepK Try.prog 0 1 (1 + (Try.f5.ntmps - 1)) none (lv7C l c i (T ++ F) en' (ck + F.length) e o)) := by
 cases ask <;> cases T <;> cases o <;> cases F
 ·exact lv7v_0000 l c i en ck f hd hl40 h1 x raw a0 hx a e en' hg hT9 hD
 ·exact lv7v_0001 l c i en ck f hd hl40 h1 x raw a0 hx _ _ a e en' hg hT9 hD
 ·exact lv7v_0010 l c i en ck f hd hl40 h1 x raw a0 hx _ _ a e en' hg hT9 hD
 ·exact lv7v_0011 l c i en ck f hd hl40 h1 x raw a0 hx _ _ _ _ a e en' hg hT9 hD
 ·rw [List.append_nil]; exact lv7v_0100 l c i en ck f hd hl40 h1 x raw a0 hx _ _ a e en' hg hT9 hD
 ·exact lv7v_0101 l c i en ck f hd hl40 h1 x raw a0 hx _ _ _ _ a e en' hg hT9 hD
 ·rw [List.append_nil]; exact lv7v_0110 l c i en ck f hd hl40 h1 x raw a0 hx _ _ _ _ a e en' hg hT9 hD
 ·exact lv7v_0111 l c i en ck f hd hl40 h1 x raw a0 hx _ _ _ _ _ _ a e en' hg hT9 hD
 ·exact lv7v_1000 l c i en ck f hd hl40 h1 x raw a0 hx a e en' hg hT9 hD
 ·exact lv7v_1001 l c i en ck f hd hl40 h1 x raw a0 hx _ _ a e en' hg hT9 hD
 ·exact lv7v_1010 l c i en ck f hd hl40 h1 x raw a0 hx _ _ a e en' hg hT9 hD
 ·exact lv7v_1011 l c i en ck f hd hl40 h1 x raw a0 hx _ _ _ _ a e en' hg hT9 hD
 ·rw [List.append_nil]; exact lv7v_1100 l c i en ck f hd hl40 h1 x raw a0 hx _ _ a e en' hg hT9 hD
 ·exact lv7v_1101 l c i en ck f hd hl40 h1 x raw a0 hx _ _ _ _ a e en' hg hT9 hD
 ·rw [List.append_nil]; exact lv7v_1110 l c i en ck f hd hl40 h1 x raw a0 hx _ _ _ _ a e en' hg hT9 hD
 ·exact lv7v_1111 l c i en ck f hd hl40 h1 x raw a0 hx _ _ _ _ _ _ a e en' hg hT9 hD
theorem lv7ug (l : List A7) (c i en ck : Nat) (f : Nat → Option Value) (hd : ∀ x ∈ l, x.x.ok = true ∧ (bs x.x.n).length ≤ 3000 ∧ (bs x.x.d).length ≤ 3000) (hl40 : l.length ≤ 40) (h1 : i < l.length) (T : List (Bl × Nat)) (o : Bl) (e : Int) : CW Try.prog 0 1 (1 + (Try.f5.ntmps - 1)) none (codeAt (loopAt Try.f5 0) [1, 0, 1, 1, 1, 1, 1, 1, 1]) (lv7C l c i T en ck e o f) (stepK Try.prog 0 1 (1 + (Try.f5.ntmps - 1)) none (lv7E l c i T en ck)) := by
 cases T <;> cases o
 ·exact lv7u_00 l c i en ck f hd hl40 h1 e
 ·exact lv7u_01 l c i en ck f hd hl40 h1 _ _ e
 ·exact lv7u_10 l c i en ck f hd hl40 h1 _ _ e
 ·exact lv7u_11 l c i en ck f hd hl40 h1 _ _ _ _ e
theorem lv7_body (l : List A7) (c i en ck : Nat) (f : Nat → Option Value) (hd : ∀ x ∈ l, x.x.ok = true ∧ (bs x.x.n).length ≤ 3000 ∧ (bs x.x.d).length ≤ 3000) (hl40 : l.length ≤ 40) (h1 : i < l.length) (x : RcX) (ask raw : Bool) (a0 : Int) (hx : l[i] = ⟨x, ask, raw, a0⟩) (T : List (Bl × Nat)) (hg : goodT T) (hT9 : T.length ≤ 800000000) (a e : Int) (ha : a = bif raw then a0 else IntKind.i64.wrap ((en : Int) + pickI a0 20000)) (o : Bl) (F : List (Bl × Nat)) (en' : Nat)
  (hD : actD en T a ask x = (e, o, F, en')) : CW Try.prog 0 1 (1 + (Try.f5.ntmps - 1)) none (loopAt Try.f5 0) (lv7E l c i T en ck f) (stepK Try.prog 0 1 (1 + (Try.f5.ntmps - 1)) none (lv7E l c (i + 1) (T ++ F) en' (ck + F.length))) := by
 refine zHa (lv7E l c i T en ck) (lv7xg l c i en ck f hd hl40 h1 T) (fun f => ?_)
 refine zHa (lv7E l c i (T ++ F) en' (ck + F.length)) ?_ (fun f => lv7ig l c i en' _ f hd hl40 h1 _)
 refine cw_blk _ ?_
 refine zHa (lv7A l c i T en ck a0) (lv7yg l c i en ck f hd hl40 h1 x ask raw a0 hx T) (fun f => ?_)
 refine zHa (lv7A l c i T en ck a) (lv7zg l c i en ck f hd hl40 h1 x ask raw a0 hx T a ha) (fun f => ?_)
 refine zHa (lv7X l c i T en ck a x) (lv7qg l c i en ck f hd hl40 h1 x ask raw a0 hx a T) (fun f => ?_)
 refine zHa (lv7Y l c i T en ck a x) (lv7rg l c i en ck f hd hl40 h1 a x T) (fun f => ?_)
 refine zHa (lv7Y l c i T en ck a x) (lv7sg l c i en ck f hd hl40 h1 a x T) (fun f => ?_)
 refine zHa (lv7Y l c i T en ck a x) (lv7tg l c i en ck f hd hl40 h1 a x T) (fun f => ?_)
 refine zHa (lv7C l c i (T ++ F) en' (ck + F.length) e o) (lv7vg l c i en ck f hd hl40 h1 x ask raw a0 hx T o F a e en' hg hT9 hD) (fun f => ?_)
 exact lv7ug l c i en' _ f hd hl40 h1 (T ++ F) o e
theorem zWe (l : List A7) (c : Nat) : ∃ r, FnS Try.prog 0 5 [.slice (some ⟨0, 0, none⟩) l.length c] (heap 1 [(0, .win (l.flatMap layA7.g) layA7.k)]) 1 r ∧ ∃ H m wr, r = .ret (.bool true) H m wr ∧ ∀ k ∈ wr, 1 ≤ k := by
 have hpl : plainL (l.flatMap layA7.g) = true := zAa layA7.g layA7.plain _
 refine zBm mixed tbLv2 [0] Try.func5 (c := bodyOf Try.f5) (by kernel_rfl) ?_
 refine Exists.intro (⟨0, c, [], l, []⟩, ()) (And.intro ⟨rfl, ⟨(by show _ = some ([] ++ l.flatMap layA7.g ++ []); rw [List.append_nil]; rfl), rfl, rfl⟩, trivial⟩ ?_)
 refine ifK (fun g => ?_) (fun g => ?_)
 ·exact ⟨_, _, _, rfl, zDm rfl⟩
 obtain ⟨hl40, hd⟩ := longA7_no g
 have hl40 : l.length ≤ 40 := hl40
 refine zBs (lv7S l c) (fun x => l.length - x.1) (fun x => x.1 ≤ l.length ∧ goodT x.2.1 ∧ x.2.1.length ≤ 2000 * x.1) (0, [], 0, 0) ⟨Nat.zero_le _, ⟨List.nodup_nil, fun p hp => by cases hp⟩, Nat.le_refl _⟩ (rcq [1, 2, 3] ⟨⟨_, rfl, .sl _ _ _ _ _ rfl⟩, ⟨_, rfl, .ptr _ _ _ rfl⟩, ⟨_, rfl, .ptr _ _ _ rfl⟩, ⟨_, rfl, .int _ _⟩, trivial⟩ ⟨bpo (hpl), ⟨by decide, _, rfl, zAt [] 0⟩, ⟨by decide, _, rfl, zAg 1 1 (by exact rfl) 0⟩, bpo rfl, trivial⟩ .nil) ?_
 rintro ⟨i, T, en, ck⟩ f ⟨hi, hg, hTl⟩
 have hi : i ≤ l.length := hi
 have hg : goodT T := hg
 have hTl : T.length ≤ 2000 * i := hTl
 have hT9 : T.length ≤ 800000000 := by omega
 by_cases h1 : i < l.length
 ·obtain ⟨x, hx⟩ : ∃ x, l[i] = x := ⟨_, rfl⟩
  obtain ⟨x, ask, raw, a0⟩ := x
  obtain ⟨a, ha⟩ : ∃ a : Int, a = bif raw then a0 else IntKind.i64.wrap ((en : Int) + pickI a0 20000) := ⟨_, rfl⟩
  obtain ⟨D, hD⟩ : ∃ D, actD en T a ask x = D := ⟨_, rfl⟩
  have hgd : goodT (T ++ D.2.2.1) := by rw [← hD]; exact actD_good hg
  have hF1 : D.2.2.1.length ≤ 2000 := by rw [← hD]; exact actD_len
  have hln : (T ++ D.2.2.1).length ≤ 2000 * (i + 1) := by rw [List.length_append]; omega
  obtain ⟨e, o, F, en'⟩ := D
  refine (lv7_body l c i en ck f hd hl40 h1 x ask raw a0 hx T hg hT9 a e ha o F en' hD).mono fun x s1 hk => ?_
  cases x with
  | normal => obtain ⟨f', hr⟩ := hk; exact ⟨(i + 1, T ++ F, en', ck + F.length), ⟨h1, hgd, hln⟩, (by show l.length - (i + 1) < l.length - i; omega), f', hr⟩
  | _ => exact hk.elim
 ·have e1 : i = l.length := by omega
  subst e1
  cases T with
  | nil =>
   refine zAn tbLv2 [0] 1 _ none mixed _ _ _ ?_
   refine ifK (fun g => absurd (of_decide_eq_true g) (by omega)) (fun _ => ?_)
   refine And.intro rfl (zAi (rcq [] (d := 8) (d2 := 1) (lv := [(0, .slice (some ⟨0, 0, none⟩) l.length c)]) (bs := [(0, .win (l.flatMap layA7.g) layA7.k)]) (W := []) (m := 1) (df := []) ⟨⟨_, rfl, .sl _ _ _ _ _ rfl⟩, trivial⟩ ⟨bpo (hpl), trivial⟩ .nil) (fun f => ?_))
   exact ⟨_, _, _, rfl, zDm rfl⟩
  | cons q T =>
   refine zAn tbLv2 [0] 1 _ none mixed _ _ _ ?_
   refine ifK (fun g => absurd (of_decide_eq_true g) (by omega)) (fun _ => ?_)
   refine And.intro rfl (zAi (rcq [] (d := 8) (d2 := 1) (lv := [(0, .slice (some ⟨0, 0, none⟩) l.length c)]) (bs := [(0, .win (l.flatMap layA7.g) layA7.k)]) (W := []) (m := 1) (df := []) ⟨⟨_, rfl, .sl _ _ _ _ _ rfl⟩, trivial⟩ ⟨bpo (hpl), trivial⟩ .nil) (fun f => ?_))
   exact ⟨_, _, _, rfl, zDm rfl⟩
end Go.Proofs.Ytmpaeabkdhjamaa
