/- DERIVED. Texts put together: Pk11, Pk12, Pk13, Wr0, Wr1, Wr2, Wr3, Wr4, Wr5, Wr6, PkC, Wr7, Wr8. -/
import Derived.Test.YtmpaeabkdhjamaaZ17
set_option maxRecDepth 1000000
set_option maxHeartbeats 32000000
namespace Go.Proofs.Ytmpaeabkdhjamaa
open Go Go.RowKit
def rqE (a : Nat) (en : Int) (B : Bl) (out : Bl) (F : List (Bl × Nat)) (i : Nat) (f : Nat → Option Value) : Fs := match out, F with
 | [], _ => ⟨slots 7 [(0, .pointer (some ⟨0, 0, none⟩)), (1, .int .i64 (a : Int)), (2, .string (mkS B)), (9, .slice none 0 0), (10, .slice none 0 0), (11, .int .i64 (i : Int))] f, heap 3 [(0, .cells [.slice none 0 0, .int .i64 en] 38)], 1, [], []⟩
 | u :: us, [] => ⟨slots 7 [(0, .pointer (some ⟨0, 0, none⟩)), (1, .int .i64 (a : Int)), (2, .string (mkS B)), (9, .slice (some ⟨1, 0, none⟩) (us.length + 1) U), (10, .slice none 0 0), (11, .int .i64 (i : Int))] f, heap 3 [(0, .cells [.slice none 0 0, .int .i64 en] 38), (1, .cells ((u :: us).map byV) 5)], 2, [], []⟩
 | u :: us, p :: F => ⟨slots 7 [(0, .pointer (some ⟨0, 0, none⟩)), (1, .int .i64 (a : Int)), (2, .string (mkS B)), (9, .slice (some ⟨1, 0, none⟩) (us.length + 1) U), (10, .slice (some ⟨2, 0, none⟩) (F.length + 1) U), (11, .int .i64 (i : Int))] f, heap 3 [(0, .cells [.slice none 0 0, .int .i64 en] 38), (1, .cells ((u :: us).map byV) 5), (2, .cells ((p :: F).flatMap layT.g) 107)], 3, [], []⟩
def rqS (a : Nat) (en : Int) (B : Bl) (x : Bl × List (Bl × Nat)) (f : Nat → Option Value) : Fs := rqE a en B x.1 x.2 x.1.length f
theorem zRy (a : Nat) (en : Int) (B : Bl) (ha : a ≤ 65535) (hB : Nm B) (hlB : B.length ≤ 255) {s0 : Fs} {K : Ex → Fs → Prop}
  (h0 : ∃ f, RcM Try.prog 0 1 (3 + (Try.f46.ntmps - 3)) none s0 (rqS a en B ([], []) f))
  (hex : ∀ out F i f, i < B.length → (out = [] → F = []) → (B.getD i 0 = 0 ∧ (out ++ [0], F) = packN [] a B.length B 0 ∨ B.getD i 0 ≠ 0 ∧ (out, F) = packN [] a B.length B 0) → out.length ≤ 257 → K (.exit 0) (rqE a en B out F i f)) :
  LW Try.prog 0 1 (3 + (Try.f46.ntmps - 3)) none (loopAt Try.f46 0) s0 K := by
 have h1s : (Try.prog.types[5]).size = 1 := by kernel_rfl
 have hby : (Try.prog.types[5]).bytes = 1 := by kernel_rfl
 have h2s : (Try.prog.types[107]).size = 2 := by kernel_rfl
 have h2b : (Try.prog.types[107]).bytes = 24 := by kernel_rfl
 obtain ⟨R, hR⟩ : ∃ R, packN [] a B.length B 0 = R := ⟨_, rfl⟩
 rw [hR] at hex
 refine zBs (rqS a en B) (fun x => B.length - x.1.length) (fun x => x.1.length ≤ B.length ∧ Nm (B.drop x.1.length) ∧ (x.1 = [] → x.2 = []) ∧ x.2.length ≤ x.1.length ∧ ∃ f, (B.drop x.1.length).length ≤ f ∧ (x.1 ++ (packN [] a f (B.drop x.1.length) x.1.length).1, x.2 ++ (packN [] a f (B.drop x.1.length) x.1.length).2) = R) ([], []) ⟨Nat.zero_le _, hB, fun _ => rfl, Nat.le_refl _, B.length, Nat.le_refl _, hR⟩ h0 ?_
 rintro ⟨out, F⟩ f ⟨hib, hnm, hoF, hFl, fu, hfu, hpk⟩
 have hib : out.length ≤ B.length := hib
 have hoF : out = [] → F = [] := hoF
 have hFl : F.length ≤ out.length := hFl
 obtain ⟨t, ht⟩ : ∃ t, B.drop out.length = t := ⟨_, rfl⟩
 have hnm : Nm (B.drop out.length) := hnm
 have hfu : (B.drop out.length).length ≤ fu := hfu
 have hpk : (out ++ (packN [] a fu (B.drop out.length) out.length).1, F ++ (packN [] a fu (B.drop out.length) out.length).2) = R := hpk
 rw [ht] at hnm hfu hpk
 have htl : t.length = B.length - out.length := by rw [← ht, List.length_drop]
 have hpos := hnm.pos
 obtain ⟨fu, rfl⟩ : ∃ g, fu = g + 1 := ⟨fu - 1, by omega⟩
 obtain ⟨c, hc⟩ : ∃ c, (t.getD 0 0).toNat = c := ⟨_, rfl⟩
 have hcl : c ≤ 63 := by rw [← hc]; cases hnm <;> simp <;> omega
 have hct : c ≠ 0 → c + 1 < t.length ∧ Nm (t.drop (c + 1)) := fun h => by
  cases hnm with
  | root => exact absurd (show c = 0 by rw [← hc]; rfl) h
  | lab c' x r h1 h2 hx hr =>
   have hc : c'.toNat = c := hc
   have e : (c' :: (x ++ r)).drop (c + 1) = r := by rw [List.drop_succ_cons, ← hc, ← hx, List.drop_left]
   refine ⟨?_, by rw [e]; exact hr⟩
   have := hr.pos
   simp; omega
 have hB0 : B.getD out.length 0 = t.getD 0 0 := by rw [← ht]; simp [List.getD_eq_getElem?_getD]
 have FACT : ∀ I : Int, I = (out.length : Int) → inI I (mkS B).data.size = true ∧ ((atS (mkS B) I).toNat : Int) = (c : Int) ∧ inLH I ((mkS B).data.size : Int) (mkS B).data.size = true ∧ subS (mkS B) I.toNat (((mkS B).data.size : Int)).toNat = mkS t ∧
   IntKind.i64.wrap (IntKind.i64.wrap (I + 1) + IntKind.i64.wrap ((atS (mkS B) I).toNat : Int)) = ((out.length + c + 1 : Nat) : Int) ∧ (c ≠ 0 → inLH I (IntKind.i64.wrap (IntKind.i64.wrap (I + 1) + IntKind.i64.wrap ((atS (mkS B) I).toNat : Int))) (mkS B).data.size = true) ∧
   (subS (mkS B) I.toNat (IntKind.i64.wrap (IntKind.i64.wrap (I + 1) + IntKind.i64.wrap ((atS (mkS B) I).toNat : Int))).toNat).data.toList = t.take (c + 1) ∧ IntKind.i64.wrap ((a : Int) + I) = ((a + out.length : Nat) : Int) := fun I hI => by
  subst hI
  have e1 : ((atS (mkS B) (out.length : Int)).toNat : Int) = (c : Int) := by rw [zJn, hB0, hc]
  have e2 : IntKind.i64.wrap (IntKind.i64.wrap ((out.length : Int) + 1) + IntKind.i64.wrap ((atS (mkS B) (out.length : Int)).toNat : Int)) = ((out.length + c + 1 : Nat) : Int) := by
   rw [e1, zAq (x := (out.length : Int) + 1) (by omega) (by omega), zAq (x := (c : Int)) (by omega) (by omega), zAq (by omega) (by omega)]; omega
  refine ⟨by rw [zAs]; simp [inI]; omega, e1, by rw [zAs]; simp [inLH]; omega, ?_, e2, fun h => ?_, ?_, ?_⟩
  ·rw [zAs, Int.toNat_natCast, Int.toNat_natCast]; simp [subS, mkS, ht]
  ·have := (hct h).1
   rw [e2, zAs]; simp [inLH]; omega
  ·rw [e2, Int.toNat_natCast, Int.toNat_natCast]
   simp only [subS, mkS]
   rw [← ht]
   rw [show out.length + c + 1 = out.length + (c + 1) by omega, List.drop_take]
   simp
  ·rw [zAq (by omega) (by omega)]; omega
 have hel : c ≠ 0 → (t.take (c + 1)).length = c + 1 := fun h => by have := (hct h).1; rw [List.length_take]; omega
 unfold packN at hpk
 simp only [hc] at hpk
 cases out with
 | nil =>
  have hF0 : F = [] := hoF rfl
  subst hF0
  obtain ⟨k1, k2, k3, k4, k5, k6, k7, k8⟩ := FACT 0 rfl
  obtain ⟨_, _, _, _, l5, _, l7, _⟩ := FACT ((List.length (([] : Bl), ([] : List (Bl × Nat))).fst : Nat) : Int) rfl
  refine zAn tbPk9 [1, 2] 1 _ none mixed _ _ _ ?_
  refine And.intro k1 ?_
  refine ifK (fun h1 => ?_) (fun h1 => ?_)
  ·have h1 : c ≠ 0 := fun e => by have h1 : (((atS (mkS B) 0).toNat : Int) != 0) = true := h1; rw [k2, e] at h1; cases h1
   rw [if_neg h1] at hpk
   refine And.intro k3 ?_
   refine Exists.intro (⟨0, none, [], en, t⟩ : PlX) (And.intro ⟨by show [Value.pointer _, Value.string (subS (mkS B) (Int.toNat 0) (((mkS B).data.size : Int)).toNat)] = _; rw [k4], rfl, rfl, Nat.zero_le _⟩ ?_)
   have hlk : lookT ([] : List (Bl × Nat)) t = none := rfl
   refine ifK (fun g => ?_) (fun g => ?_)
   ·have g : a + 0 < 16384 := by have g : decide (IntKind.i64.wrap ((a : Int) + 0) < 16384) = true := g; rw [k8] at g; have := of_decide_eq_true g; simp at this; omega
    refine And.intro k3 ?_
    refine Exists.intro [Value.string (mkS t), .int .i64 (a : Int)] (And.intro (by rw [h2s]; show some (1, [Value.string (subS (mkS B) (Int.toNat 0) (((mkS B).data.size : Int)).toNat), Value.int .i64 (IntKind.i64.wrap ((a : Int) + 0))]) = _; rw [k4, k8]; rfl) ?_)
    refine And.intro (by kernel_rfl) ?_
    refine And.intro k1 ?_
    refine And.intro (k6 h1) ?_
    refine ifK (fun g => absurd (Nat.eq_of_beq_eq_true g) (by rw [l7, hel h1]; omega)) (fun _ => ?_)
    refine And.intro (by rw [l7, hel h1, hby, decide_eq_true (by omega), decide_eq_true (by omega)]; rfl) ?_
    obtain ⟨u, us, hu⟩ : ∃ u us, t.take (c + 1) = u :: us := by
     have := hel h1
     cases hq : t.take (c + 1) with
     | nil => rw [hq] at this; cases this
     | cons u us => exact ⟨u, us, rfl⟩
    have hul : (u :: us).length = 0 + c + 1 := by rw [← hu, hel h1]; omega
    have hul2 : (([] : Bl).length + c + 1 : Nat) = us.length + 1 := by simp at hul; simp; omega
    have hc1 := hct h1
    have hdr : B.drop (u :: us).length = t.drop (c + 1) := by rw [hul, ← ht]; simp
    refine ⟨(u :: us, [(t, a)]), ⟨?_, ?_, ?_, ?_, fu, ?_, ?_⟩, ?_, ?_⟩
    ·show (u :: us).length ≤ B.length
     rw [hul]; simp at htl; omega
    ·show Nm (B.drop (u :: us).length)
     rw [hdr]; exact hc1.2
    ·intro h; cases h
    ·show List.length _ ≤ (u :: us).length
     rw [hul]; simp
    ·show (B.drop (u :: us).length).length ≤ fu
     rw [hdr, List.length_drop]; omega
    ·show ((u :: us) ++ (packN [] a fu (B.drop (u :: us).length) (u :: us).length).1, [(t, a)] ++ (packN [] a fu (B.drop (u :: us).length) (u :: us).length).2) = R
     rw [hdr]
     have hpk : ([] ++ (t.take (c + 1) ++ (packN [] a fu (t.drop (c + 1)) (0 + c + 1)).1), [] ++ (if a + 0 < 16384 then (t, a + 0) :: (packN [] a fu (t.drop (c + 1)) (0 + c + 1)).2 else (packN [] a fu (t.drop (c + 1)) (0 + c + 1)).2)) = R := hpk
     rw [← hpk, hul]; simp only [if_pos g]; simp [← hu, List.append_assoc]
    ·show B.length - (u :: us).length < B.length - 0
     rw [hul]; omega
    exact rcq [3, 2] ⟨⟨_, rfl, .ptr _ _ _ rfl⟩, ⟨_, rfl, .int _ _⟩, ⟨_, rfl, .string _⟩, ⟨_, rfl, by rw [l7, hu]; exact .sl _ _ _ _ _ rfl⟩, ⟨_, rfl, .sl _ _ _ _ _ rfl⟩, ⟨_, rfl, by rw [l5, hul2]; exact .int _ _⟩, trivial⟩ ⟨bpo rfl, ⟨by decide, _, rfl, by rw [l7, hu]; exact .same (zAb (u :: us))⟩, bpo rfl, trivial⟩ .nil
   ·have g : ¬ a + 0 < 16384 := fun hlt => by have g : decide (IntKind.i64.wrap ((a : Int) + 0) < 16384) = false := g; rw [k8] at g; exact absurd (show ((a + ([] : Bl).length : Nat) : Int) < 16384 by simp; omega) (of_decide_eq_false g)
    refine And.intro k1 ?_
    refine And.intro (k6 h1) ?_
    refine ifK (fun g => absurd (Nat.eq_of_beq_eq_true g) (by rw [l7, hel h1]; omega)) (fun _ => ?_)
    refine And.intro (by rw [l7, hel h1, hby, decide_eq_true (by omega), decide_eq_true (by omega)]; rfl) ?_
    obtain ⟨u, us, hu⟩ : ∃ u us, t.take (c + 1) = u :: us := by
     have := hel h1
     cases hq : t.take (c + 1) with
     | nil => rw [hq] at this; cases this
     | cons u us => exact ⟨u, us, rfl⟩
    have hul : (u :: us).length = 0 + c + 1 := by rw [← hu, hel h1]; omega
    have hul2 : (([] : Bl).length + c + 1 : Nat) = us.length + 1 := by simp at hul; simp; omega
    have hc1 := hct h1
    have hdr : B.drop (u :: us).length = t.drop (c + 1) := by rw [hul, ← ht]; simp
    refine ⟨(u :: us, []), ⟨?_, ?_, ?_, ?_, fu, ?_, ?_⟩, ?_, ?_⟩
    ·show (u :: us).length ≤ B.length
     rw [hul]; simp at htl; omega
    ·show Nm (B.drop (u :: us).length)
     rw [hdr]; exact hc1.2
    ·intro h; cases h
    ·show List.length _ ≤ (u :: us).length
     rw [hul]; simp
    ·show (B.drop (u :: us).length).length ≤ fu
     rw [hdr, List.length_drop]; omega
    ·show ((u :: us) ++ (packN [] a fu (B.drop (u :: us).length) (u :: us).length).1, [] ++ (packN [] a fu (B.drop (u :: us).length) (u :: us).length).2) = R
     rw [hdr]
     have hpk : ([] ++ (t.take (c + 1) ++ (packN [] a fu (t.drop (c + 1)) (0 + c + 1)).1), [] ++ (if a + 0 < 16384 then (t, a + 0) :: (packN [] a fu (t.drop (c + 1)) (0 + c + 1)).2 else (packN [] a fu (t.drop (c + 1)) (0 + c + 1)).2)) = R := hpk
     rw [← hpk, hul]; simp only [if_neg g]; simp [← hu, List.append_assoc]
    ·show B.length - (u :: us).length < B.length - 0
     rw [hul]; omega
    exact rcq [1] ⟨⟨_, rfl, .ptr _ _ _ rfl⟩, ⟨_, rfl, .int _ _⟩, ⟨_, rfl, .string _⟩, ⟨_, rfl, by rw [l7, hu]; exact .sl _ _ _ _ _ rfl⟩, ⟨_, rfl, zAc 8 rfl⟩, ⟨_, rfl, by rw [l5, hul2]; exact .int _ _⟩, trivial⟩ ⟨bpo rfl, ⟨by decide, _, rfl, by rw [l7, hu]; exact .same (zAb (u :: us))⟩, trivial⟩ .nil
  ·have h1 : c = 0 := by have h1 : (((atS (mkS B) 0).toNat : Int) != 0) = false := h1; rw [k2] at h1; have : (c : Int) = 0 := by simpa using h1
                         omega
   rw [if_pos h1] at hpk
   refine And.intro rfl (zAi (rcq [] (d := 7) (d2 := 3) (lv := [(0, .pointer (some ⟨0, 0, none⟩)), (1, .int .i64 (a : Int)), (2, .string (mkS B)), (9, .slice none 0 0), (10, .slice none 0 0), (11, .int .i64 ((0 : Nat) : Int))]) (bs := [(0, .cells [.slice none 0 0, .int .i64 en] 38)]) (W := []) (m := 1) (df := []) ⟨⟨_, rfl, .ptr _ _ _ rfl⟩, ⟨_, rfl, .int _ _⟩, ⟨_, rfl, .string _⟩, ⟨_, rfl, zAc 8 rfl⟩, ⟨_, rfl, zAc 8 rfl⟩, ⟨_, rfl, .int _ _⟩, trivial⟩ ⟨bpo rfl, trivial⟩ .nil) (fun f => ?_))
   refine hex [] [] 0 f (by simp at htl; omega) (fun _ => rfl) (.inl ⟨?_, ?_⟩) (by decide)
   ·rw [show B.getD 0 0 = t.getD 0 0 from hB0]; exact UInt8.toNat_inj.1 (by rw [hc, h1]; rfl)
   ·rw [← hpk]; simp
 | cons u us =>
  have hlen2 : (u :: us).length ≤ 255 := by omega
  have hlen3 : us.length + 1 ≤ 255 := hlen2
  obtain ⟨j1, j2, j3, j4, j5, j6, j7, j8⟩ := FACT ((us.length + 1 : Nat) : Int) rfl
  have hst : oneL ((t.take (c + 1)).map byV) = true := by unfold oneL; exact List.all_eq_true.2 (fun v hv => by obtain ⟨b, _, rfl⟩ := List.mem_map.1 hv; rfl)
  obtain ⟨k1, k2, k3, l4, l5, k6, l7, l8⟩ := FACT ((List.length (u :: us, F).fst : Nat) : Int) rfl
  cases F with
  | nil =>
   refine zAn tbPk9 [1, 2] 1 _ none mixed _ _ _ ?_
   refine And.intro k1 ?_
   refine ifK (fun h1 => ?_) (fun h1 => ?_)
   ·have h1 : c ≠ 0 := fun e => by have h1 : (((atS (mkS B) ((us.length + 1 : Nat) : Int)).toNat : Int) != 0) = true := h1; rw [j2, e] at h1; cases h1
    rw [if_neg h1] at hpk
    refine And.intro k3 ?_
    refine Exists.intro (⟨0, none, [], en, t⟩ : PlX) (And.intro ⟨by show [Value.pointer _, Value.string (subS (mkS B) (((us.length + 1 : Nat) : Int)).toNat (((mkS B).data.size : Int)).toNat)] = _; rw [j4], rfl, rfl, Nat.zero_le _⟩ ?_)
    have hlk : lookT ([] : List (Bl × Nat)) t = none := rfl
    refine ifK (fun g => ?_) (fun g => ?_)
    ·have g : a + (us.length + 1) < 16384 := by have g : decide (IntKind.i64.wrap ((a : Int) + ((us.length + 1 : Nat) : Int)) < 16384) = true := g; rw [j8] at g; have := of_decide_eq_true g; simp only [List.length_cons] at this; omega
     refine And.intro k3 ?_
     refine Exists.intro [Value.string (mkS t), .int .i64 ((a + (us.length + 1) : Nat) : Int)] (And.intro (by rw [h2s]; show some (1, [Value.string (subS (mkS B) (((us.length + 1 : Nat) : Int)).toNat (((mkS B).data.size : Int)).toNat), Value.int .i64 (IntKind.i64.wrap ((a : Int) + ((us.length + 1 : Nat) : Int)))]) = _; rw [j4, j8]; rfl) ?_)
     refine And.intro (by kernel_rfl) ?_
     refine And.intro k1 ?_
     refine And.intro (k6 h1) ?_
     refine ifK (fun g => absurd (Nat.eq_of_beq_eq_true g) (by rw [l7, hel h1]; omega)) (fun _ => ?_)
     refine And.intro (by rw [l7, hby, h1s]; simp only [Bool.and_eq_true, decide_eq_true_eq]; exact ⟨⟨⟨⟨⟨⟨rfl, rfl⟩, Nat.ble_eq_true_of_le (by simp)⟩, hst⟩, (by omega)⟩, (by omega)⟩, Nat.ble_eq_true_of_le (by have := (hct h1).1; simp; omega)⟩) ?_
     have hc1 := hct h1
     have hull : (us ++ t.take (c + 1)).length + 1 = us.length + 1 + c + 1 := by rw [List.length_append, hel h1]; omega
     have hdr : B.drop (u :: (us ++ t.take (c + 1))).length = t.drop (c + 1) := by rw [List.length_cons, hull, ← ht, List.drop_drop]; rfl
     refine ⟨(u :: (us ++ t.take (c + 1)), [(t, a + (us.length + 1))]), ⟨?_, ?_, ?_, ?_, fu, ?_, ?_⟩, ?_, ?_⟩
     ·show (u :: (us ++ t.take (c + 1))).length ≤ B.length
      rw [List.length_cons, hull]; simp only [List.length_cons] at htl; omega
     ·show Nm (B.drop (u :: (us ++ t.take (c + 1))).length)
      rw [hdr]; exact hc1.2
     ·intro h; cases h
     ·show List.length _ ≤ (u :: (us ++ t.take (c + 1))).length
      have e : (u :: (us ++ t.take (c + 1))).length = us.length + 1 + c + 1 := hull
      rw [e]; simp only [List.length_cons, List.length_append, List.length_nil] at hFl ⊢; omega
     ·show (B.drop (u :: (us ++ t.take (c + 1))).length).length ≤ fu
      rw [hdr, List.length_drop]; omega
     ·show ((u :: (us ++ t.take (c + 1))) ++ (packN [] a fu (B.drop (u :: (us ++ t.take (c + 1))).length) (u :: (us ++ t.take (c + 1))).length).1, ([(t, a + (us.length + 1))]) ++ (packN [] a fu (B.drop (u :: (us ++ t.take (c + 1))).length) (u :: (us ++ t.take (c + 1))).length).2) = R
      rw [hdr, List.length_cons]
      have hpk : ((u :: us) ++ (t.take (c + 1) ++ (packN [] a fu (t.drop (c + 1)) (us.length + 1 + c + 1)).1), ([] : List (Bl × Nat)) ++ (if a + (us.length + 1) < 16384 then (t, a + (us.length + 1)) :: (packN [] a fu (t.drop (c + 1)) (us.length + 1 + c + 1)).2 else (packN [] a fu (t.drop (c + 1)) (us.length + 1 + c + 1)).2)) = R := hpk
      rw [← hpk, hull]; simp only [if_pos g]; simp [List.append_assoc]
     ·show B.length - (u :: (us ++ t.take (c + 1))).length < B.length - (us.length + 1)
      rw [List.length_cons, hull]; simp only [List.length_cons] at htl; omega
     exact rcq [4, 3] ⟨⟨_, rfl, .ptr _ _ _ rfl⟩, ⟨_, rfl, .int _ _⟩, ⟨_, rfl, .string _⟩, ⟨_, rfl, by rw [l7, show (us ++ t.take (c + 1)).length + 1 = us.length + 1 + (t.take (c + 1)).length by rw [List.length_append]; omega]; exact .sl _ _ _ _ _ rfl⟩, ⟨_, rfl, .sl _ _ _ _ _ rfl⟩, ⟨_, rfl, by rw [l5, show (u :: us).length + c + 1 = (u :: (us ++ t.take (c + 1))).length by rw [List.length_cons, List.length_cons, hull]]; exact .int _ _⟩, trivial⟩ ⟨bpo rfl, ⟨by decide, _, rfl, zBb (by rw [l7, h1s, Nat.mul_one, List.take_of_length_le (by simp)]; simp <;> rfl) (zAb _)⟩, ⟨by decide, _, rfl, .same (zAa layT.g layT.plain [(t, a + (us.length + 1))])⟩, trivial⟩ .nil
    ·have g : ¬ a + (us.length + 1) < 16384 := fun hlt => by have g : decide (IntKind.i64.wrap ((a : Int) + ((us.length + 1 : Nat) : Int)) < 16384) = false := g; rw [j8] at g; exact absurd (show ((a + (u :: us).length : Nat) : Int) < 16384 by simp only [List.length_cons]; omega) (of_decide_eq_false g)
     refine And.intro k1 ?_
     refine And.intro (k6 h1) ?_
     refine ifK (fun g => absurd (Nat.eq_of_beq_eq_true g) (by rw [l7, hel h1]; omega)) (fun _ => ?_)
     refine And.intro (by rw [l7, hby, h1s]; simp only [Bool.and_eq_true, decide_eq_true_eq]; exact ⟨⟨⟨⟨⟨⟨rfl, rfl⟩, Nat.ble_eq_true_of_le (by simp)⟩, hst⟩, (by omega)⟩, (by omega)⟩, Nat.ble_eq_true_of_le (by have := (hct h1).1; simp; omega)⟩) ?_
     have hc1 := hct h1
     have hull : (us ++ t.take (c + 1)).length + 1 = us.length + 1 + c + 1 := by rw [List.length_append, hel h1]; omega
     have hdr : B.drop (u :: (us ++ t.take (c + 1))).length = t.drop (c + 1) := by rw [List.length_cons, hull, ← ht, List.drop_drop]; rfl
     refine ⟨(u :: (us ++ t.take (c + 1)), []), ⟨?_, ?_, ?_, ?_, fu, ?_, ?_⟩, ?_, ?_⟩
     ·show (u :: (us ++ t.take (c + 1))).length ≤ B.length
      rw [List.length_cons, hull]; simp only [List.length_cons] at htl; omega
     ·show Nm (B.drop (u :: (us ++ t.take (c + 1))).length)
      rw [hdr]; exact hc1.2
     ·intro h; cases h
     ·show List.length _ ≤ (u :: (us ++ t.take (c + 1))).length
      have e : (u :: (us ++ t.take (c + 1))).length = us.length + 1 + c + 1 := hull
      rw [e]; simp only [List.length_cons, List.length_append, List.length_nil] at hFl ⊢; omega
     ·show (B.drop (u :: (us ++ t.take (c + 1))).length).length ≤ fu
      rw [hdr, List.length_drop]; omega
     ·show ((u :: (us ++ t.take (c + 1))) ++ (packN [] a fu (B.drop (u :: (us ++ t.take (c + 1))).length) (u :: (us ++ t.take (c + 1))).length).1, ([]) ++ (packN [] a fu (B.drop (u :: (us ++ t.take (c + 1))).length) (u :: (us ++ t.take (c + 1))).length).2) = R
      rw [hdr, List.length_cons]
      have hpk : ((u :: us) ++ (t.take (c + 1) ++ (packN [] a fu (t.drop (c + 1)) (us.length + 1 + c + 1)).1), ([] : List (Bl × Nat)) ++ (if a + (us.length + 1) < 16384 then (t, a + (us.length + 1)) :: (packN [] a fu (t.drop (c + 1)) (us.length + 1 + c + 1)).2 else (packN [] a fu (t.drop (c + 1)) (us.length + 1 + c + 1)).2)) = R := hpk
      rw [← hpk, hull]; simp only [if_neg g]; simp [List.append_assoc]
     ·show B.length - (u :: (us ++ t.take (c + 1))).length < B.length - (us.length + 1)
      rw [List.length_cons, hull]; simp only [List.length_cons] at htl; omega
     exact rcq [2] ⟨⟨_, rfl, .ptr _ _ _ rfl⟩, ⟨_, rfl, .int _ _⟩, ⟨_, rfl, .string _⟩, ⟨_, rfl, by rw [l7, show (us ++ t.take (c + 1)).length + 1 = us.length + 1 + (t.take (c + 1)).length by rw [List.length_append]; omega]; exact .sl _ _ _ _ _ rfl⟩, ⟨_, rfl, zAc 8 rfl⟩, ⟨_, rfl, by rw [l5, show (u :: us).length + c + 1 = (u :: (us ++ t.take (c + 1))).length by rw [List.length_cons, List.length_cons, hull]]; exact .int _ _⟩, trivial⟩ ⟨bpo rfl, ⟨by decide, _, rfl, zBb (by rw [l7, h1s, Nat.mul_one, List.take_of_length_le (by simp)]; simp <;> rfl) (zAb _)⟩, trivial⟩ .nil
   ·have h1 : c = 0 := by have h1 : (((atS (mkS B) ((us.length + 1 : Nat) : Int)).toNat : Int) != 0) = false := h1; rw [j2] at h1; have : (c : Int) = 0 := by simpa using h1
                          omega
    rw [if_pos h1] at hpk
    refine And.intro rfl (zAi (rcq [1] (d := 7) (d2 := 3) (lv := [(0, .pointer (some ⟨0, 0, none⟩)), (1, .int .i64 (a : Int)), (2, .string (mkS B)), (9, .slice (some ⟨1, 0, none⟩) (us.length + 1) U), (10, .slice none 0 0), (11, .int .i64 ((us.length + 1 : Nat) : Int))]) (bs := [(0, .cells [.slice none 0 0, .int .i64 en] 38), (1, .cells ((u :: us).map byV) 5)]) (W := []) (m := 2) (df := []) ⟨⟨_, rfl, .ptr _ _ _ rfl⟩, ⟨_, rfl, .int _ _⟩, ⟨_, rfl, .string _⟩, ⟨_, rfl, .sl _ _ _ _ _ rfl⟩, ⟨_, rfl, zAc 8 rfl⟩, ⟨_, rfl, .int _ _⟩, trivial⟩ ⟨bpo rfl, bpo (zAb _), trivial⟩ .nil) (fun f => ?_))
    refine hex (u :: us) ([]) (us.length + 1) f (by simp only [List.length_cons] at htl; omega) (fun h => by cases h) (.inl ⟨?_, ?_⟩) (by simp at hlen2 ⊢; omega)
    ·rw [show B.getD (us.length + 1) 0 = t.getD 0 0 from hB0]; exact UInt8.toNat_inj.1 (by rw [hc, h1]; rfl)
    ·rw [← hpk]; simp
  | cons p F =>
   refine zAn tbPk9 [1, 2] 1 _ none mixed _ _ _ ?_
   refine And.intro k1 ?_
   refine ifK (fun h1 => ?_) (fun h1 => ?_)
   ·have h1 : c ≠ 0 := fun e => by have h1 : (((atS (mkS B) ((us.length + 1 : Nat) : Int)).toNat : Int) != 0) = true := h1; rw [j2, e] at h1; cases h1
    rw [if_neg h1] at hpk
    refine And.intro k3 ?_
    refine Exists.intro (⟨0, none, [], en, t⟩ : PlX) (And.intro ⟨by show [Value.pointer _, Value.string (subS (mkS B) (((us.length + 1 : Nat) : Int)).toNat (((mkS B).data.size : Int)).toNat)] = _; rw [j4], rfl, rfl, Nat.zero_le _⟩ ?_)
    have hlk : lookT ([] : List (Bl × Nat)) t = none := rfl
    refine ifK (fun g => ?_) (fun g => ?_)
    ·have g : a + (us.length + 1) < 16384 := by have g : decide (IntKind.i64.wrap ((a : Int) + ((us.length + 1 : Nat) : Int)) < 16384) = true := g; rw [j8] at g; have := of_decide_eq_true g; simp only [List.length_cons] at this; omega
     refine And.intro k3 ?_
     refine And.intro (by rw [h2s, h2b]; simp only [Bool.and_eq_true, decide_eq_true_eq]; exact ⟨⟨⟨⟨⟨⟨rfl, rfl⟩, Nat.ble_eq_true_of_le (by rw [zAf layT.g layT.k layT.len]; exact Nat.le_refl _)⟩, rfl⟩, (by simp at hFl hlen2; omega)⟩, (by simp at hFl hlen2; omega)⟩, Nat.ble_eq_true_of_le (by rw [zAf layT.g layT.k layT.len]; show (F.length + 1) * 2 + 1 ≤ 0 + (F.length + 1) * 2 + 2; omega)⟩) ?_
     refine And.intro k1 ?_
     refine And.intro (k6 h1) ?_
     refine ifK (fun g => absurd (Nat.eq_of_beq_eq_true g) (by rw [l7, hel h1]; omega)) (fun _ => ?_)
     refine And.intro (by rw [l7, hby, h1s]; simp only [Bool.and_eq_true, decide_eq_true_eq]; exact ⟨⟨⟨⟨⟨⟨rfl, rfl⟩, Nat.ble_eq_true_of_le (by simp)⟩, hst⟩, (by omega)⟩, (by omega)⟩, Nat.ble_eq_true_of_le (by have := (hct h1).1; simp; omega)⟩) ?_
     have hc1 := hct h1
     have hull : (us ++ t.take (c + 1)).length + 1 = us.length + 1 + c + 1 := by rw [List.length_append, hel h1]; omega
     have hdr : B.drop (u :: (us ++ t.take (c + 1))).length = t.drop (c + 1) := by rw [List.length_cons, hull, ← ht, List.drop_drop]; rfl
     refine ⟨(u :: (us ++ t.take (c + 1)), p :: (F ++ [(t, a + (us.length + 1))])), ⟨?_, ?_, ?_, ?_, fu, ?_, ?_⟩, ?_, ?_⟩
     ·show (u :: (us ++ t.take (c + 1))).length ≤ B.length
      rw [List.length_cons, hull]; simp only [List.length_cons] at htl; omega
     ·show Nm (B.drop (u :: (us ++ t.take (c + 1))).length)
      rw [hdr]; exact hc1.2
     ·intro h; cases h
     ·show List.length _ ≤ (u :: (us ++ t.take (c + 1))).length
      have e : (u :: (us ++ t.take (c + 1))).length = us.length + 1 + c + 1 := hull
      rw [e]; simp only [List.length_cons, List.length_append, List.length_nil] at hFl ⊢; omega
     ·show (B.drop (u :: (us ++ t.take (c + 1))).length).length ≤ fu
      rw [hdr, List.length_drop]; omega
     ·show ((u :: (us ++ t.take (c + 1))) ++ (packN [] a fu (B.drop (u :: (us ++ t.take (c + 1))).length) (u :: (us ++ t.take (c + 1))).length).1, (p :: (F ++ [(t, a + (us.length + 1))])) ++ (packN [] a fu (B.drop (u :: (us ++ t.take (c + 1))).length) (u :: (us ++ t.take (c + 1))).length).2) = R
      rw [hdr, List.length_cons]
      have hpk : ((u :: us) ++ (t.take (c + 1) ++ (packN [] a fu (t.drop (c + 1)) (us.length + 1 + c + 1)).1), (p :: F) ++ (if a + (us.length + 1) < 16384 then (t, a + (us.length + 1)) :: (packN [] a fu (t.drop (c + 1)) (us.length + 1 + c + 1)).2 else (packN [] a fu (t.drop (c + 1)) (us.length + 1 + c + 1)).2)) = R := hpk
      rw [← hpk, hull]; simp only [if_pos g]; simp [List.append_assoc]
     ·show B.length - (u :: (us ++ t.take (c + 1))).length < B.length - (us.length + 1)
      rw [List.length_cons, hull]; simp only [List.length_cons] at htl; omega
     exact rcq [5, 4] ⟨⟨_, rfl, .ptr _ _ _ rfl⟩, ⟨_, rfl, .int _ _⟩, ⟨_, rfl, .string _⟩, ⟨_, rfl, by rw [l7, show (us ++ t.take (c + 1)).length + 1 = us.length + 1 + (t.take (c + 1)).length by rw [List.length_append]; omega]; exact .sl _ _ _ _ _ rfl⟩, ⟨_, rfl, by rw [show (F ++ [(t, a + (us.length + 1))]).length + 1 = F.length + 1 + 1 by simp]; exact .sl _ _ _ _ _ rfl⟩, ⟨_, rfl, by rw [l5, show (u :: us).length + c + 1 = (u :: (us ++ t.take (c + 1))).length by rw [List.length_cons, List.length_cons, hull]]; exact .int _ _⟩, trivial⟩ ⟨bpo rfl, ⟨by decide, _, rfl, zBb (by rw [l7, h1s, Nat.mul_one, List.take_of_length_le (by simp)]; simp <;> rfl) (zAb _)⟩, ⟨by decide, _, rfl, zBb (by rw [h2s, l4, l8, List.take_of_length_le (by rw [zAf layT.g layT.k layT.len]; exact Nat.le_refl _)]; simp [layT]) (zAa layT.g layT.plain _)⟩, trivial⟩ .nil
    ·have g : ¬ a + (us.length + 1) < 16384 := fun hlt => by have g : decide (IntKind.i64.wrap ((a : Int) + ((us.length + 1 : Nat) : Int)) < 16384) = false := g; rw [j8] at g; exact absurd (show ((a + (u :: us).length : Nat) : Int) < 16384 by simp only [List.length_cons]; omega) (of_decide_eq_false g)
     refine And.intro k1 ?_
     refine And.intro (k6 h1) ?_
     refine ifK (fun g => absurd (Nat.eq_of_beq_eq_true g) (by rw [l7, hel h1]; omega)) (fun _ => ?_)
     refine And.intro (by rw [l7, hby, h1s]; simp only [Bool.and_eq_true, decide_eq_true_eq]; exact ⟨⟨⟨⟨⟨⟨rfl, rfl⟩, Nat.ble_eq_true_of_le (by simp)⟩, hst⟩, (by omega)⟩, (by omega)⟩, Nat.ble_eq_true_of_le (by have := (hct h1).1; simp; omega)⟩) ?_
     have hc1 := hct h1
     have hull : (us ++ t.take (c + 1)).length + 1 = us.length + 1 + c + 1 := by rw [List.length_append, hel h1]; omega
     have hdr : B.drop (u :: (us ++ t.take (c + 1))).length = t.drop (c + 1) := by rw [List.length_cons, hull, ← ht, List.drop_drop]; rfl
     refine ⟨(u :: (us ++ t.take (c + 1)), p :: F), ⟨?_, ?_, ?_, ?_, fu, ?_, ?_⟩, ?_, ?_⟩
     ·show (u :: (us ++ t.take (c + 1))).length ≤ B.length
      rw [List.length_cons, hull]; simp only [List.length_cons] at htl; omega
     ·show Nm (B.drop (u :: (us ++ t.take (c + 1))).length)
      rw [hdr]; exact hc1.2
     ·intro h; cases h
     ·show List.length _ ≤ (u :: (us ++ t.take (c + 1))).length
      have e : (u :: (us ++ t.take (c + 1))).length = us.length + 1 + c + 1 := hull
      rw [e]; simp only [List.length_cons, List.length_append, List.length_nil] at hFl ⊢; omega
     ·show (B.drop (u :: (us ++ t.take (c + 1))).length).length ≤ fu
      rw [hdr, List.length_drop]; omega
     ·show ((u :: (us ++ t.take (c + 1))) ++ (packN [] a fu (B.drop (u :: (us ++ t.take (c + 1))).length) (u :: (us ++ t.take (c + 1))).length).1, (p :: F) ++ (packN [] a fu (B.drop (u :: (us ++ t.take (c + 1))).length) (u :: (us ++ t.take (c + 1))).length).2) = R
      rw [hdr, List.length_cons]
      have hpk : ((u :: us) ++ (t.take (c + 1) ++ (packN [] a fu (t.drop (c + 1)) (us.length + 1 + c + 1)).1), (p :: F) ++ (if a + (us.length + 1) < 16384 then (t, a + (us.length + 1)) :: (packN [] a fu (t.drop (c + 1)) (us.length + 1 + c + 1)).2 else (packN [] a fu (t.drop (c + 1)) (us.length + 1 + c + 1)).2)) = R := hpk
      rw [← hpk, hull]; simp only [if_neg g]; simp [List.append_assoc]
     ·show B.length - (u :: (us ++ t.take (c + 1))).length < B.length - (us.length + 1)
      rw [List.length_cons, hull]; simp only [List.length_cons] at htl; omega
     exact rcq [3, 2] ⟨⟨_, rfl, .ptr _ _ _ rfl⟩, ⟨_, rfl, .int _ _⟩, ⟨_, rfl, .string _⟩, ⟨_, rfl, by rw [l7, show (us ++ t.take (c + 1)).length + 1 = us.length + 1 + (t.take (c + 1)).length by rw [List.length_append]; omega]; exact .sl _ _ _ _ _ rfl⟩, ⟨_, rfl, .sl _ _ _ _ _ rfl⟩, ⟨_, rfl, by rw [l5, show (u :: us).length + c + 1 = (u :: (us ++ t.take (c + 1))).length by rw [List.length_cons, List.length_cons, hull]]; exact .int _ _⟩, trivial⟩ ⟨bpo rfl, ⟨by decide, _, rfl, zBb (by rw [l7, h1s, Nat.mul_one, List.take_of_length_le (by simp)]; simp <;> rfl) (zAb _)⟩, bpo (zAa layT.g layT.plain _), trivial⟩ .nil
   ·have h1 : c = 0 := by have h1 : (((atS (mkS B) ((us.length + 1 : Nat) : Int)).toNat : Int) != 0) = false := h1; rw [j2] at h1; have : (c : Int) = 0 := by simpa using h1
                          omega
    rw [if_pos h1] at hpk
    refine And.intro rfl (zAi (rcq [1, 2] (d := 7) (d2 := 3) (lv := [(0, .pointer (some ⟨0, 0, none⟩)), (1, .int .i64 (a : Int)), (2, .string (mkS B)), (9, .slice (some ⟨1, 0, none⟩) (us.length + 1) U), (10, .slice (some ⟨2, 0, none⟩) (F.length + 1) U), (11, .int .i64 ((us.length + 1 : Nat) : Int))]) (bs := [(0, .cells [.slice none 0 0, .int .i64 en] 38), (1, .cells ((u :: us).map byV) 5), (2, .cells ((p :: F).flatMap layT.g) 107)]) (W := []) (m := 3) (df := []) ⟨⟨_, rfl, .ptr _ _ _ rfl⟩, ⟨_, rfl, .int _ _⟩, ⟨_, rfl, .string _⟩, ⟨_, rfl, .sl _ _ _ _ _ rfl⟩, ⟨_, rfl, .sl _ _ _ _ _ rfl⟩, ⟨_, rfl, .int _ _⟩, trivial⟩ ⟨bpo rfl, bpo (zAb _), bpo (zAa layT.g layT.plain _), trivial⟩ .nil) (fun f => ?_))
    refine hex (u :: us) (p :: F) (us.length + 1) f (by simp only [List.length_cons] at htl; omega) (fun h => by cases h) (.inl ⟨?_, ?_⟩) (by simp at hlen2 ⊢; omega)
    ·rw [show B.getD (us.length + 1) 0 = t.getD 0 0 from hB0]; exact UInt8.toNat_inj.1 (by rw [hc, h1]; rfl)
    ·rw [← hpk]; simp
end Go.Proofs.Ytmpaeabkdhjamaa
namespace Go.Proofs.Ytmpaeabkdhjamaa
open Go Go.RowKit
theorem rname0_fn (a en : Nat) (B : Bl) (ha : a ≤ 65535) (hen : en ≤ a) (hB : Nm B) (hlB : B.length ≤ 255) :
  ∃ r, FnS Try.prog 0 46 [.pointer (some ⟨0, 0, none⟩), .int .i64 (a : Int), .string (mkS B)] (heap 1 [(0, .cells [.slice none 0 0, .int .i64 (en : Int)] 38)]) 1 r ∧
   ∃ H m wr b l, r = .ret (.tuple #[.slice (some ⟨b, 0, none⟩) (packN [] a B.length B 0).1.length U, .int .i64 0]) H m wr ∧ (1 ≤ b ∧ b < JJ ∧ 0 ∈ wr) ∧ H.get b = some (.cells ((packN [] a B.length B 0).1.map byV) 5) ∧
    ((packN [] a B.length B 0).2 = [] ∧ H.get 0 = some (.cells [.slice none 0 0, .int .i64 ((a + (packN [] a B.length B 0).1.length : Nat) : Int)] 38) ∨ (packN [] a B.length B 0).2 ≠ [] ∧ (1 ≤ l ∧ l < JJ ∧ l ≠ b) ∧ H.get 0 = some (.cells [.slice (some ⟨l, 0, none⟩) (packN [] a B.length B 0).2.length U, .int .i64 ((a + (packN [] a B.length B 0).1.length : Nat) : Int)] 38) ∧ H.get l = some (.cells ((packN [] a B.length B 0).2.flatMap layT.g) 107)) := by
 have hsh : shortB (mkS B) = true := by unfold shortB; rw [zAs]; exact Nat.ble_eq_true_of_le (by omega)
 have hlab : (labels (bs (mkS B))).2 = 0 := by rw [show bs (mkS B) = B from by simp [bs, mkS]]; exact (zAv B).2 ⟨hB, hlB⟩
 have h1s : (Try.prog.types[5]).size = 1 := by kernel_rfl
 have hby : (Try.prog.types[5]).bytes = 1 := by kernel_rfl
 have h2s : (Try.prog.types[107]).size = 2 := by kernel_rfl
 have h2b : (Try.prog.types[107]).bytes = 24 := by kernel_rfl
 refine zBm mixed tbPk9 [1, 2] Try.func46 (c := bodyOf Try.f46) (by kernel_rfl) ?_
 refine And.intro hsh ?_
 refine ifK (fun g => by have g : ((labels (bs (mkS B))).2 != 0) = true := g; rw [hlab] at g; cases g) (fun _ => ?_)
 refine ifK (fun g => absurd (of_decide_eq_true g) (by omega)) (fun _ => ?_)
 refine ifK (fun g => absurd (of_decide_eq_true g) (by omega)) (fun _ => ?_)
 refine zRy a (en : Int) B ha hB hlB (rcq [] ⟨⟨_, rfl, .ptr _ _ _ rfl⟩, ⟨_, rfl, .int _ _⟩, ⟨_, rfl, .string _⟩, ⟨_, rfl, zAc 8 rfl⟩, ⟨_, rfl, zAc 8 rfl⟩, ⟨_, rfl, .int _ _⟩, trivial⟩ ⟨bpo rfl, trivial⟩ .nil) ?_
 intro out F i f hi hoF hor hl
 have e1 : inI (i : Int) (mkS B).data.size = true := by rw [zAs]; simp [inI]; omega
 have e2 : ((atS (mkS B) (i : Int)).toNat : Int) = ((B.getD i 0).toNat : Int) := by rw [zJn]
 cases out with
 | nil =>
  have hF0 : F = [] := hoF rfl
  subst hF0
  rcases hor with ⟨c0, hR⟩ | ⟨_, hR⟩
  ·rw [← hR]
   refine And.intro e1 ?_
   refine ifK (fun _ => ?_) (fun g => by have g : (((atS (mkS B) (i : Int)).toNat : Int) == 0) = false := g; rw [e2, c0] at g; cases g)
   refine Exists.intro [Value.int .u8 0] (And.intro rfl ?_)
   refine And.intro (by kernel_rfl) ?_
   have ew : IntKind.i64.wrap ((a : Int) + ((1 : Nat) : Int)) = ((a + 1 : Nat) : Int) := by rw [zAq (by omega) (by omega)]; omega
   refine ⟨_, _, _, 2, 0, rfl, ⟨by decide, by decide, List.mem_of_elem_eq_true (by kernel_rfl)⟩, rfl, .inl ⟨rfl, ?_⟩⟩
   show some (AObj.cells [.slice none 0 0, .int .i64 (IntKind.i64.wrap ((a : Int) + ((1 : Nat) : Int)))] _) = _
   rw [ew]; rfl
  ·exact absurd (congrArg Prod.fst hR).symm (zCj [] a _ B 0 hB.pos)
 | cons u us =>
  have hl : us.length + 1 ≤ 257 := hl
  cases F with
  | nil =>
   rcases hor with ⟨c0, hR⟩ | ⟨c0, hR⟩
   ·have eL : (packN [] a B.length B 0).1.length = us.length + 1 + 1 := by rw [← hR]; simp
    rw [eL, ← hR]
    refine And.intro e1 ?_
    refine ifK (fun _ => ?_) (fun g => by have g : (((atS (mkS B) (i : Int)).toNat : Int) == 0) = false := g; rw [e2, c0] at g; cases g)
    refine Exists.intro [Value.int .u8 0] (And.intro rfl ?_)
    refine And.intro (by rw [hby, h1s]; simp only [Bool.and_eq_true, decide_eq_true_eq]; exact ⟨⟨⟨⟨⟨⟨rfl, rfl⟩, Nat.ble_eq_true_of_le (by simp)⟩, rfl⟩, (by omega)⟩, (by omega)⟩, Nat.ble_eq_true_of_le (by simp)⟩) ?_
    have ew : IntKind.i64.wrap ((a : Int) + ((us.length + 1 + 1 : Nat) : Int)) = ((a + (us.length + 1 + 1) : Nat) : Int) := by rw [zAq (by omega) (by omega)]; omega
    refine ⟨_, _, _, 3, 0, rfl, ⟨by decide, by decide, List.mem_of_elem_eq_true (by kernel_rfl)⟩, (show some (AObj.cells (List.take _ _ ++ _) _) = _ from by rw [h1s, Nat.mul_one, List.take_of_length_le (by simp)]; simp <;> rfl), .inl ⟨rfl, ?_⟩⟩
    show some (AObj.cells [.slice none 0 0, .int .i64 (IntKind.i64.wrap ((a : Int) + ((us.length + 1 + 1 : Nat) : Int)))] _) = _
    rw [ew] <;> rfl
   ·have eL : (packN [] a B.length B 0).1.length = us.length + 1 := by rw [← hR]; rfl
    rw [eL, ← hR]
    refine And.intro e1 ?_
    refine ifK (fun g => by have g : (((atS (mkS B) (i : Int)).toNat : Int) == 0) = true := g; rw [e2] at g; exact absurd (UInt8.toNat_inj.1 (show (B.getD i 0).toNat = (0 : UInt8).toNat by have g : ((B.getD i 0).toNat : Int) = 0 := (by simpa using g); show _ = 0; omega)) c0) (fun _ => ?_)
    have ew : IntKind.i64.wrap ((a : Int) + ((us.length + 1 : Nat) : Int)) = ((a + (us.length + 1) : Nat) : Int) := by rw [zAq (by omega) (by omega)]; omega
    refine ⟨_, _, _, 1, 0, rfl, ⟨by decide, by decide, List.mem_of_elem_eq_true (by kernel_rfl)⟩, rfl, .inl ⟨rfl, ?_⟩⟩
    show some (AObj.cells [.slice none 0 0, .int .i64 (IntKind.i64.wrap ((a : Int) + ((us.length + 1 : Nat) : Int)))] _) = _
    rw [ew] <;> rfl
  | cons p F =>
   rcases hor with ⟨c0, hR⟩ | ⟨c0, hR⟩
   ·have eL : (packN [] a B.length B 0).1.length = us.length + 1 + 1 := by rw [← hR]; simp
    rw [eL, ← hR]
    refine And.intro e1 ?_
    refine ifK (fun _ => ?_) (fun g => by have g : (((atS (mkS B) (i : Int)).toNat : Int) == 0) = false := g; rw [e2, c0] at g; cases g)
    refine And.intro (by rw [hby, h1s]; simp only [Bool.and_eq_true, decide_eq_true_eq]; exact ⟨⟨⟨⟨⟨⟨rfl, rfl⟩, Nat.ble_eq_true_of_le (by simp)⟩, rfl⟩, (by omega)⟩, (by omega)⟩, Nat.ble_eq_true_of_le (by simp)⟩) ?_
    refine Exists.intro ((p :: F).flatMap layT.g) (And.intro ?_ ?_)
    ·exact zJi (pre := []) (post := []) (l := p :: F) h2s (by rw [List.append_nil, List.nil_append]; kernel_rfl)
    have hFb : F.length + 1 ≤ 300 := by have := zBd [] a B.length B 0; rw [eL, ← hR] at this; simp only [List.length_cons] at this; omega
    have ho1 : oneL ((p :: F).flatMap layT.g) = true := oneT _
    refine And.intro (by rw [h2b, Bool.and_eq_true]; exact ⟨decide_eq_true (by omega), decide_eq_true (by omega)⟩) ?_
    have ew : IntKind.i64.wrap ((a : Int) + ((us.length + 1 + 1 : Nat) : Int)) = ((a + (us.length + 1 + 1) : Nat) : Int) := by rw [zAq (by omega) (by omega)]; omega
    refine ⟨_, _, _, 4, 5, rfl, ⟨by decide, by decide, List.mem_of_elem_eq_true (by kernel_rfl)⟩, (show some (AObj.cells (List.take _ _ ++ _) _) = _ from by rw [h1s, Nat.mul_one, List.take_of_length_le (by simp)]; simp <;> rfl), .inr ⟨List.cons_ne_nil _ _, ⟨by decide, by decide, by decide⟩, ?_, ?_⟩⟩
    ·show some (AObj.cells [.slice (some ⟨5, 0, none⟩) (F.length + 1) U, .int .i64 (IntKind.i64.wrap ((a : Int) + ((us.length + 1 + 1 : Nat) : Int)))] _) = _
     rw [ew] <;> rfl
    ·rfl
   ·have eL : (packN [] a B.length B 0).1.length = us.length + 1 := by rw [← hR]; rfl
    rw [eL, ← hR]
    refine And.intro e1 ?_
    refine ifK (fun g => by have g : (((atS (mkS B) (i : Int)).toNat : Int) == 0) = true := g; rw [e2] at g; exact absurd (UInt8.toNat_inj.1 (show (B.getD i 0).toNat = (0 : UInt8).toNat by have g : ((B.getD i 0).toNat : Int) = 0 := (by simpa using g); show _ = 0; omega)) c0) (fun _ => ?_)
    refine Exists.intro ((p :: F).flatMap layT.g) (And.intro ?_ ?_)
    ·exact zJi (pre := []) (post := []) (l := p :: F) h2s (by rw [List.append_nil, List.nil_append]; kernel_rfl)
    have hFb : F.length + 1 ≤ 300 := by have := zBd [] a B.length B 0; rw [eL, ← hR] at this; simp only [List.length_cons] at this; omega
    have ho1 : oneL ((p :: F).flatMap layT.g) = true := oneT _
    refine And.intro (by rw [h2b, Bool.and_eq_true]; exact ⟨decide_eq_true (by omega), decide_eq_true (by omega)⟩) ?_
    have ew : IntKind.i64.wrap ((a : Int) + ((us.length + 1 : Nat) : Int)) = ((a + (us.length + 1) : Nat) : Int) := by rw [zAq (by omega) (by omega)]; omega
    refine ⟨_, _, _, 1, 3, rfl, ⟨by decide, by decide, List.mem_of_elem_eq_true (by kernel_rfl)⟩, rfl, .inr ⟨List.cons_ne_nil _ _, ⟨by decide, by decide, by decide⟩, ?_, ?_⟩⟩
    ·show some (AObj.cells [.slice (some ⟨3, 0, none⟩) (F.length + 1) U, .int .i64 (IntKind.i64.wrap ((a : Int) + ((us.length + 1 : Nat) : Int)))] _) = _
     rw [ew] <;> rfl
    ·rfl
end Go.Proofs.Ytmpaeabkdhjamaa
namespace Go.Proofs.Ytmpaeabkdhjamaa
open Go Go.RowKit
def setL (H : Tr AObj) : List (Nat × Option AObj) → Tr AObj
 | [] => H
 | (k, o) :: l => setL (H.set k o) l
theorem zSi : ∀ (l : List (Nat × Option AObj)) (H : Tr AObj) (j : Nat), j ∉ l.map (·.1) → (setL H l).get j = H.get j
 | [], _, _, _ => rfl
 | p :: l, H, j, h => by
  rw [List.map_cons, List.mem_cons, not_or] at h
  show (setL (H.set p.1 p.2) l).get j = _
  rw [zSi l _ j h.2, Tr.get_set_ne _ _ h.1]
theorem zUi : ∀ (l : List (Nat × Option AObj)) (H : Tr AObj) (j : Nat) (o : AObj), (setL H l).get j = some o → (j, some o) ∈ l ∨ j ∉ l.map (·.1) ∧ H.get j = some o
 | [], _, _, _, h => .inr ⟨List.not_mem_nil, h⟩
 | p :: l, H, j, o, h => by
  rcases zUi l (H.set p.1 p.2) j o h with h1 | ⟨h1, h2⟩
  ·exact .inl (List.mem_cons_of_mem _ h1)
  ·by_cases hj : j = p.1
   ·rw [hj, Tr.get_set_self] at h2
    refine .inl (List.mem_cons.2 (.inl ?_))
    rw [hj, ← h2]
   ·rw [Tr.get_set_ne _ _ hj] at h2
    refine .inr ⟨?_, h2⟩
    rw [List.map_cons, List.mem_cons, not_or]; exact ⟨hj, h1⟩
theorem zBl {A B : List Nat} {n k j : Nat} (h : A[k]? = some j) : tau A B n k j := by
 have hk : k < A.length := (List.getElem?_eq_some_iff.1 h).1
 unfold tau tauF
 rw [show Nat.blt k A.length = true from Nat.ble_eq_true_of_le hk, cond_true, h]
theorem zAu {f : FuncId} {args args0 : List Value} {H H0 H' : Tr AObj} {n m : Nat} {wr : List Nat} {v0 v : Value} (A B : List Nat) (ups : List (Nat × Option AObj)) (hF : FnS Try.prog 0 f args0 H0 A.length (.ret v0 H' m wr))
  (hA : A.Nodup) (hcb : CallB Try.prog A H H0) (harg : RL (caR A) args args0) (hw0 : ∀ k o, H0.get k = some o → k < A.length → ¬ o.isWin) (hw : ∀ j ∈ A, ∃ o, H.get j = some o ∧ ¬ o.isWin)
  (hB : B.Nodup) (hBn : ∀ x ∈ B, A.length ≤ x ∧ x < JJ ∧ H'.get x ≠ none) (hv : RV (tau A B n) v0 v)
  (hu : ∀ p ∈ ups, p.1 ∈ A ∨ n ≤ p.1 ∧ p.1 < n + B.length)
  (hk : ∀ k j, A[k]? = some j → k ∈ wr → j ∈ ups.map (·.1) ∨ ∃ o o1, H.get j = some o ∧ H'.get k = some o1 ∧ RO Try.prog (tau A B n) o1 o)
  (hs : ∀ j o, (j, some o) ∈ ups → ∃ k o1, tau A B n k j ∧ H'.get k = some o1 ∧ RO Try.prog (tau A B n) o1 o ∧ (k < A.length → k ∈ wr)) :
  CallOK Try.prog 0 f args H n (.ret v (setL H ups) (n + B.length) A) := by
 refine zCp (A := A) (B := B) rfl hF (zCx hA) (ArgOK.of harg) hcb hB (fun x hx => ⟨(hBn x hx).1, (hBn x hx).2.1⟩) (fun x hx => (hBn x hx).2.2) (.ret _ _ _ _ _ _ _ _ hv) rfl ⟨Nat.le_add_right _ _, fun j hj hm => ?_, fun h0 k hk2 => ?_⟩ (fun k hk1 hl => ⟨fun o ho => hw0 k o ho hl, fun j hj => ⟨hw j (List.mem_of_getElem? hj), List.mem_of_getElem? hj⟩⟩) (fun j o h => ?_)
 ·refine zSi ups H j (fun hm2 => ?_)
  obtain ⟨p, hp, e⟩ := List.mem_map.1 hm2
  rcases hu p hp with h1 | h1
  ·exact hm (e ▸ h1)
  ·omega
 ·have hne : k ∉ ups.map (·.1) := fun hm2 => by
   obtain ⟨p, hp, e⟩ := List.mem_map.1 hm2
   rcases hu p hp with h1 | h1
   ·obtain ⟨o, ho, _⟩ := hw _ h1
    have := h0.lt (k := p.1) (by rw [ho]; simp)
    omega
   ·omega
  rw [zSi ups H k hne]
  exact h0 k (by omega)
 ·rcases zUi ups H j o h with h1 | ⟨h1, h2⟩
  ·exact .inr (hs j o h1)
  ·by_cases hm : ∃ k, A[k]? = some j ∧ k ∈ wr
   ·obtain ⟨k, e1, e2⟩ := hm
    rcases hk k j e1 e2 with h3 | ⟨o', o1, h3, h4, h5⟩
    ·exact absurd h3 h1
    ·rw [h2] at h3; cases h3
     exact .inr ⟨k, o1, zBl e1, h4, h5, fun _ => e2⟩
   ·exact .inl ⟨h2, fun k e1 e2 => hm ⟨k, e1, e2⟩⟩
theorem rnameE_fn (a : Int) (en : Nat) (cells : List Value) (_ : plainL cells = true) (c : Nat) (s : ByteArray) (hs : shortB s = true) (he : pnE en a s ≠ 0) :
  ∃ r, FnS Try.prog 0 46 [.pointer (some ⟨0, 0, none⟩), .int .i64 a, .string s] (heap 2 [(0, .cells [.slice (some ⟨1, 0, none⟩) c U, .int .i64 (en : Int)] 38), (1, .cells cells 107)]) 2 r ∧
   ∃ H m wr, r = .ret (.tuple #[.slice none 0 0, .int .i64 (pnE en a s)]) H m wr ∧ ∀ k ∈ wr, 2 ≤ k := by
 refine zBm mixed tbPk9 [1, 2, 3] Try.func46 (c := bodyOf Try.f46) (by kernel_rfl) ?_
 unfold pnE at he ⊢
 refine And.intro hs ?_
 refine ifK (fun g => ?_) (fun g => ?_)
 ·have g : (labels (bs s)).2 ≠ 0 := by have g : ((labels (bs s)).2 != 0) = true := g; simpa using g
  rw [if_pos g]; exact ⟨_, _, _, rfl, zDm rfl⟩
 have g : (labels (bs s)).2 = 0 := by have g : ((labels (bs s)).2 != 0) = false := g; simpa using g
 rw [if_neg (by simpa using g)] at he ⊢
 refine ifK (fun h1 => ?_) (fun h1 => ?_)
 ·have h1 := of_decide_eq_true h1
  rw [if_pos (.inl h1)]; exact ⟨_, _, _, rfl, zDm rfl⟩
 have h1 := of_decide_eq_false h1
 refine ifK (fun h2 => ?_) (fun h2 => ?_)
 ·have h2 := of_decide_eq_true h2
  rw [if_pos (.inr h2)]; exact ⟨_, _, _, rfl, zDm rfl⟩
 have h2 := of_decide_eq_false h2
 rw [if_neg (by omega)] at he ⊢
 refine ifK (fun h3 => ?_) (fun h3 => ?_)
 ·have h3 := of_decide_eq_true h3
  rw [if_pos h3]; exact ⟨_, _, _, rfl, zDm rfl⟩
 have h3 := of_decide_eq_false h3
 rw [if_neg h3] at he
 exact absurd rfl he
theorem zVv (a : Int) (en : Nat) (s : ByteArray) (hs : shortB s = true) (he : pnE en a s ≠ 0) :
  ∃ r, FnS Try.prog 0 46 [.pointer (some ⟨0, 0, none⟩), .int .i64 a, .string s] (heap 1 [(0, .cells [.slice none 0 0, .int .i64 (en : Int)] 38)]) 1 r ∧
   ∃ H m wr, r = .ret (.tuple #[.slice none 0 0, .int .i64 (pnE en a s)]) H m wr ∧ ∀ k ∈ wr, 1 ≤ k := by
 refine zBm mixed tbPk9 [1, 2, 3] Try.func46 (c := bodyOf Try.f46) (by kernel_rfl) ?_
 unfold pnE at he ⊢
 refine And.intro hs ?_
 refine ifK (fun g => ?_) (fun g => ?_)
 ·have g : (labels (bs s)).2 ≠ 0 := by have g : ((labels (bs s)).2 != 0) = true := g; simpa using g
  rw [if_pos g]; exact ⟨_, _, _, rfl, zDm rfl⟩
 have g : (labels (bs s)).2 = 0 := by have g : ((labels (bs s)).2 != 0) = false := g; simpa using g
 rw [if_neg (by simpa using g)] at he ⊢
 refine ifK (fun h1 => ?_) (fun h1 => ?_)
 ·have h1 := of_decide_eq_true h1
  rw [if_pos (.inl h1)]; exact ⟨_, _, _, rfl, zDm rfl⟩
 have h1 := of_decide_eq_false h1
 refine ifK (fun h2 => ?_) (fun h2 => ?_)
 ·have h2 := of_decide_eq_true h2
  rw [if_pos (.inr h2)]; exact ⟨_, _, _, rfl, zDm rfl⟩
 have h2 := of_decide_eq_false h2
 rw [if_neg (by omega)] at he ⊢
 refine ifK (fun h3 => ?_) (fun h3 => ?_)
 ·have h3 := of_decide_eq_true h3
  rw [if_pos h3]; exact ⟨_, _, _, rfl, zDm rfl⟩
 have h3 := of_decide_eq_false h3
 rw [if_neg h3] at he
 exact absurd rfl he
structure RnX where
 pb : Nat
 v : Option Nat
 en : Nat
 T : List (Bl × Nat)
 a : Int
 s : ByteArray
 er : Bool
 o : Bl
 F : List (Bl × Nat)
def rnV (v : Option Nat) (T : List (Bl × Nat)) : Value := match v with
 | none => .slice none 0 0
 | some b => .slice (some ⟨b, 0, none⟩) T.length U
def rnAt (v : Option Nat) (T : List (Bl × Nat)) (H : Tr AObj) : Prop := match v with
 | none => T = []
 | some b => H.get b = some (.cells (T.flatMap layT.g) 107) ∧ T ≠ []
def rnO (pb : Nat) (v : Option Nat) (T : List (Bl × Nat)) (a : Int) (o : Bl) (F : List (Bl × Nat)) (H : Tr AObj) (n : Nat) : Res := match v, F with
 | none, [] => .ret (.tuple #[.slice (some ⟨n, 0, none⟩) o.length U, .int .i64 0]) ((H.set pb (some (.cells [.slice none 0 0, .int .i64 ((a.toNat + o.length : Nat) : Int)] 38))).set n (some (.cells (o.map byV) 5))) (n + 1) [pb]
 | none, p :: F => .ret (.tuple #[.slice (some ⟨n, 0, none⟩) o.length U, .int .i64 0]) (((H.set pb (some (.cells [.slice (some ⟨n + 1, 0, none⟩) (T ++ p :: F).length U, .int .i64 ((a.toNat + o.length : Nat) : Int)] 38))).set n (some (.cells (o.map byV) 5))).set (n + 1) (some (.cells ((T ++ p :: F).flatMap layT.g) 107))) (n + 2) [pb]
 | some b, [] => .ret (.tuple #[.slice (some ⟨n, 0, none⟩) o.length U, .int .i64 0]) ((H.set pb (some (.cells [.slice (some ⟨b, 0, none⟩) T.length U, .int .i64 ((a.toNat + o.length : Nat) : Int)] 38))).set n (some (.cells (o.map byV) 5))) (n + 1) [pb, b]
 | some b, p :: F => .ret (.tuple #[.slice (some ⟨n, 0, none⟩) o.length U, .int .i64 0]) ((((H.set pb (some (.cells [.slice (some ⟨n + 1, 0, none⟩) (T ++ p :: F).length U, .int .i64 ((a.toNat + o.length : Nat) : Int)] 38))).set b none).set n (some (.cells (o.map byV) 5))).set (n + 1) (some (.cells ((T ++ p :: F).flatMap layT.g) 107))) (n + 2) [pb, b]
def RnX.res (x : RnX) (H : Tr AObj) (n : Nat) : Res := match x.er with
 | true => .ret (.tuple #[.slice none 0 0, .int .i64 (pnE x.en x.a x.s)]) H n []
 | false => rnO x.pb x.v x.T x.a x.o x.F H n
theorem rn_pre {v v' : Option Nat} {T T' : List (Bl × Nat)} {en en' : Nat} {H : Tr AObj} {pb : Nat} (h2 : H.get pb = some (.cells [rnV v T, .int .i64 (en : Int)] 38)) (k2 : H.get pb = some (.cells [rnV v' T', .int .i64 (en' : Int)] 38)) (h3 : rnAt v T H) (k3 : rnAt v' T' H) : v = v' ∧ T = T' ∧ en = en' := by
 rw [h2] at k2
 simp only [Option.some.injEq, AObj.cells.injEq, List.cons.injEq, Value.int.injEq, true_and, and_true] at k2
 obtain ⟨hv, e⟩ := k2
 have e : en = en' := by omega
 subst e
 cases v with
 | none => cases v' with
  | none => have h3 : T = [] := h3; have k3 : T' = [] := k3; rw [h3, k3]; exact ⟨rfl, rfl, rfl⟩
  | some p => cases hv
 | some p => cases v' with
  | none => cases hv
  | some q =>
   simp only [rnV, Value.slice.injEq, Option.some.injEq, Addr.mk.injEq, and_true] at hv
   obtain ⟨rfl, _⟩ := hv
   have h3 : H.get p = some (.cells (T.flatMap layT.g) 107) := h3.1
   have k3 : H.get p = some (.cells (T'.flatMap layT.g) 107) := k3.1
   rw [h3] at k3
   simp only [Option.some.injEq, AObj.cells.injEq, and_true] at k3
   exact ⟨rfl, layT.flat_inj _ _ k3, rfl⟩
theorem zBj (σ : Nat → Nat → Prop) (k b : Nat) (h : σ k b) (c : Nat) (e : Int) : RO Try.prog σ (.cells [.slice (some ⟨k, 0, none⟩) c U, .int .i64 e] 38) (.cells [.slice (some ⟨b, 0, none⟩) c U, .int .i64 e] 38) := RO.cells [_, _] [] _ _ (.cons _ _ _ _ (.sl _ _ _ _ _ h) (.cons _ _ _ _ (.int _ _) .nil))
theorem pb_ne {H : Tr AObj} {pb b : Nat} {l l' : List Value} (h2 : H.get pb = some (.cells l 38)) (h3 : H.get b = some (.cells l' 107)) : pb ≠ b := fun e => by
 subst e; rw [h2] at h3
 have : (38 : Nat) = 107 := by
  simp only [Option.some.injEq, AObj.cells.injEq] at h3; exact h3.2
 exact absurd this (by decide)
theorem rn_ok0 (pb en : Nat) (a : Int) (s : ByteArray) (_ : shortB s = true) (H : Tr AObj) (n : Nat) (h2 : H.get pb = some (.cells [.slice none 0 0, .int .i64 (en : Int)] 38)) (R : Bl × List (Bl × Nat)) (he : pnE en a s = 0) (hR : packN [] a.toNat (bs s).length (bs s) 0 = R) :
  CallOK Try.prog 0 46 [.pointer (some ⟨pb, 0, none⟩), .int .i64 a, .string s] H n (rnO pb none [] a R.1 R.2 H n) := by
 obtain ⟨k, rfl, hk, hen, hB, hlB, es⟩ := zJf he
 obtain ⟨r, hF, H', m, wr, b, l, rfl, ⟨hb1, hbJ, w0⟩, g1, g2⟩ := rname0_fn k en (bs s) hk hen hB hlB
 rw [es] at hF
 rw [Int.toNat_natCast] at hR
 rw [hR] at g1 g2 hF
 obtain ⟨o, F⟩ := R
 have hcb : CallB Try.prog [pb] H (heap 1 [(0, .cells [.slice none 0 0, .int .i64 (en : Int)] 38)]) := zCh ⟨⟨pb, _, rfl, h2, .same rfl⟩, trivial⟩
 have harg : RL (caR [pb]) [.pointer (some ⟨pb, 0, none⟩), .int .i64 (k : Int), .string s] [.pointer (some ⟨0, 0, none⟩), .int .i64 (k : Int), .string s] := .cons _ _ _ _ (.ptr _ _ _ rfl) (.cons _ _ _ _ (.int _ _) (.cons _ _ _ _ (.string _) .nil))
 have hw0 : ∀ j ob, (heap 1 [(0, AObj.cells [.slice none 0 0, .int .i64 (en : Int)] 38)]).get j = some ob → j < [pb].length → ¬ ob.isWin := fun j ob ho hj => by
  match j, hj, ho with
  | 0, _, ho => have ho : some (AObj.cells _ _) = some ob := ho; cases ho; exact fun h => h
  | j + 1, hj, _ => exact absurd (show j + 1 < 1 from hj) (by omega)
 have hw : ∀ j ∈ [pb], ∃ o, H.get j = some o ∧ ¬ o.isWin := fun j hj => by
  simp only [List.mem_singleton] at hj; subst hj; exact ⟨_, h2, fun h => h⟩
 rcases g2 with ⟨f0, g2⟩ | ⟨f0, ⟨hl1, hlJ, hlb⟩, g2, g3⟩
 ·have f0 : F = [] := f0
  subst f0
  refine zAu [pb] [b] [(pb, some (.cells [.slice none 0 0, .int .i64 ((k + o.length : Nat) : Int)] 38)), (n, some (.cells (o.map byV) 5))] hF (by simp) hcb harg hw0 hw (by simp) (fun x hx => by simp at hx; subst hx; exact ⟨hb1, hbJ, by rw [g1]; simp⟩)
   (.tuple _ _ (.cons _ _ _ _ (.sl _ _ _ _ _ (zFr (A := [pb]) hb1)) (.cons _ _ _ _ (.int _ _) .nil))) (fun p hp => by simp at hp; rcases hp with rfl | rfl <;> simp) (fun q j e1 _ => .inl (by have := List.mem_of_getElem? e1; simp at this; subst this; simp)) (fun j ob hm => ?_)
  rcases List.mem_cons.1 hm with e | hm
  ·cases e; exact ⟨0, _, zBl rfl, g2, .same rfl, fun _ => w0⟩
  rcases List.mem_cons.1 hm with e | hm
  ·cases e; exact ⟨b, _, zFr (A := [pb]) hb1, g1, .same (zAb _), fun h => by have h : b < 1 := h; omega⟩
  ·cases hm
 ·obtain ⟨p, F, rfl⟩ : ∃ p F', F = p :: F' := by cases F with | nil => exact absurd rfl f0 | cons p F => exact ⟨p, F, rfl⟩
  have hBn : [b, l].Nodup := by simp [Ne.symm hlb]
  have t1 : tau [pb] [b, l] n b n := zDt 0 hBn hb1 rfl
  have t2 : tau [pb] [b, l] n l (n + 1) := zDt 1 hBn hl1 rfl
  refine zAu [pb] [b, l] [(pb, some (.cells [.slice (some ⟨n + 1, 0, none⟩) ([] ++ p :: F).length U, .int .i64 ((k + o.length : Nat) : Int)] 38)), (n, some (.cells (o.map byV) 5)), (n + 1, some (.cells (([] ++ p :: F).flatMap layT.g) 107))] hF (by simp) hcb harg hw0 hw hBn (fun x hx => by
    simp only [List.mem_cons, List.not_mem_nil, or_false] at hx
    rcases hx with rfl | rfl
    ·exact ⟨hb1, hbJ, by rw [g1]; simp⟩
    ·exact ⟨hl1, hlJ, by rw [g3]; simp⟩)
   (.tuple _ _ (.cons _ _ _ _ (.sl _ _ _ _ _ t1) (.cons _ _ _ _ (.int _ _) .nil))) (fun p hp => by simp at hp; rcases hp with rfl | rfl | rfl <;> simp) (fun q j e1 _ => .inl (by have := List.mem_of_getElem? e1; simp at this; subst this; simp)) (fun j ob hm => ?_)
  rcases List.mem_cons.1 hm with e | hm
  ·cases e; exact ⟨0, _, zBl rfl, g2, zBj _ _ _ t2 _ _, fun _ => w0⟩
  rcases List.mem_cons.1 hm with e | hm
  ·cases e; exact ⟨b, _, t1, g1, .same (zAb _), fun h => by have h : b < 1 := h; omega⟩
  rcases List.mem_cons.1 hm with e | hm
  ·cases e; exact ⟨l, _, t2, g3, .same (zAa layT.g layT.plain _), fun h => by have h : l < 1 := h; omega⟩
  ·cases hm
theorem rn_ok1 (pb lb en : Nat) (T : List (Bl × Nat)) (a : Int) (s : ByteArray) (_ : shortB s = true) (hT : goodT T) (hTl : T.length ≤ 1000000000) (hT0 : T ≠ []) (H : Tr AObj) (n : Nat) (h2 : H.get pb = some (.cells [.slice (some ⟨lb, 0, none⟩) T.length U, .int .i64 (en : Int)] 38))
  (h3 : H.get lb = some (.cells (T.flatMap layT.g) 107)) (R : Bl × List (Bl × Nat)) (he : pnE en a s = 0) (hR : packN T a.toNat (bs s).length (bs s) 0 = R) :
  CallOK Try.prog 0 46 [.pointer (some ⟨pb, 0, none⟩), .int .i64 a, .string s] H n (rnO pb (some lb) T a R.1 R.2 H n) := by
 obtain ⟨k, rfl, hk, hen, hB, hlB, es⟩ := zJf he
 obtain ⟨r, hF, H', m, wr, b, l, rfl, ⟨hb1, hbJ, w0⟩, hl, g1, g2, g3⟩ := rname_fn k en T (bs s) hk hen hT hTl hT0 hB hlB
 rw [es] at hF
 rw [Int.toNat_natCast] at hR
 rw [hR] at g1 g2 g3 hF hl
 obtain ⟨o, F⟩ := R
 have hne : pb ≠ lb := pb_ne h2 h3
 have hA : [pb, lb].Nodup := by simp [hne]
 have pT : plainL (T.flatMap layT.g) = true := zAa layT.g layT.plain _
 have hcb : CallB Try.prog [pb, lb] H (heap 2 [(0, .cells [.slice (some ⟨1, 0, none⟩) T.length U, .int .i64 (en : Int)] 38), (1, .cells (T.flatMap layT.g) 107)]) := zCh ⟨⟨pb, _, rfl, h2, zBj (caR [pb, lb]) lb 1 rfl _ _⟩, ⟨lb, _, rfl, h3, .same pT⟩, trivial⟩
 have harg : RL (caR [pb, lb]) [.pointer (some ⟨pb, 0, none⟩), .int .i64 (k : Int), .string s] [.pointer (some ⟨0, 0, none⟩), .int .i64 (k : Int), .string s] := .cons _ _ _ _ (.ptr _ _ _ rfl) (.cons _ _ _ _ (.int _ _) (.cons _ _ _ _ (.string _) .nil))
 have hw0 : ∀ j ob, (heap 2 [(0, AObj.cells [.slice (some ⟨1, 0, none⟩) T.length U, .int .i64 (en : Int)] 38), (1, .cells (T.flatMap layT.g) 107)]).get j = some ob → j < [pb, lb].length → ¬ ob.isWin := fun j ob ho hj => by
  match j, hj, ho with
  | 0, _, ho => have ho : some (AObj.cells _ _) = some ob := ho; cases ho; exact fun h => h
  | 1, _, ho => have ho : some (AObj.cells _ _) = some ob := ho; cases ho; exact fun h => h
  | j + 2, hj, _ => exact absurd (show j + 2 < 2 from hj) (by omega)
 have hw : ∀ j ∈ [pb, lb], ∃ o, H.get j = some o ∧ ¬ o.isWin := fun j hj => by
  simp only [List.mem_cons, List.not_mem_nil, or_false] at hj
  rcases hj with rfl | rfl
  ·exact ⟨_, h2, fun h => h⟩
  ·exact ⟨_, h3, fun h => h⟩
 rcases hl with ⟨f0, rfl⟩ | ⟨f0, hl1, hlJ, hlb, w1⟩
 ·have f0 : F = [] := f0
  subst f0
  rw [List.append_nil] at g2 g3
  refine zAu [pb, lb] [b] [(pb, some (.cells [.slice (some ⟨lb, 0, none⟩) T.length U, .int .i64 ((k + o.length : Nat) : Int)] 38)), (n, some (.cells (o.map byV) 5))] hF hA hcb harg hw0 hw (by simp) (fun x hx => by simp at hx; subst hx; exact ⟨hb1, hbJ, by rw [g1]; simp⟩)
   (.tuple _ _ (.cons _ _ _ _ (.sl _ _ _ _ _ (zFr (A := [pb, lb]) hb1)) (.cons _ _ _ _ (.int _ _) .nil))) (fun p hp => by simp at hp; rcases hp with rfl | rfl <;> simp) (fun q j e1 _ => ?_) (fun j ob hm => ?_)
  ·match q, e1 with
   | 0, e1 => cases e1; exact .inl (by simp)
   | 1, e1 => cases e1; exact .inr ⟨_, _, h3, g3, .same pT⟩
   | q + 2, e1 => simp at e1
  rcases List.mem_cons.1 hm with e | hm
  ·cases e; exact ⟨0, _, zBl rfl, g2, zBj _ _ _ (zBl rfl) _ _, fun _ => w0⟩
  rcases List.mem_cons.1 hm with e | hm
  ·cases e; exact ⟨b, _, zFr (A := [pb, lb]) hb1, g1, .same (zAb _), fun h => by have h : b < 2 := h; omega⟩
  ·cases hm
 ·obtain ⟨p, F, rfl⟩ : ∃ p F', F = p :: F' := by cases F with | nil => exact absurd rfl f0 | cons p F => exact ⟨p, F, rfl⟩
  have hBn : [b, l].Nodup := by simp [Ne.symm hlb]
  have t1 : tau [pb, lb] [b, l] n b n := zDt 0 hBn hb1 rfl
  have t2 : tau [pb, lb] [b, l] n l (n + 1) := zDt 1 hBn hl1 rfl
  refine zAu [pb, lb] [b, l] [(pb, some (.cells [.slice (some ⟨n + 1, 0, none⟩) (T ++ p :: F).length U, .int .i64 ((k + o.length : Nat) : Int)] 38)), (lb, none), (n, some (.cells (o.map byV) 5)), (n + 1, some (.cells ((T ++ p :: F).flatMap layT.g) 107))] hF hA hcb harg hw0 hw hBn (fun x hx => by
    simp only [List.mem_cons, List.not_mem_nil, or_false] at hx
    rcases hx with rfl | rfl
    ·exact ⟨hb1, hbJ, by rw [g1]; simp⟩
    ·exact ⟨hl1, hlJ, by rw [g3]; simp⟩)
   (.tuple _ _ (.cons _ _ _ _ (.sl _ _ _ _ _ t1) (.cons _ _ _ _ (.int _ _) .nil))) (fun p hp => by simp at hp; rcases hp with rfl | rfl | rfl | rfl <;> simp) (fun q j e1 _ => .inl (by have := List.mem_of_getElem? e1; simp at this; rcases this with rfl | rfl <;> simp)) (fun j ob hm => ?_)
  rcases List.mem_cons.1 hm with e | hm
  ·cases e; exact ⟨0, _, zBl rfl, g2, zBj _ _ _ t2 _ _, fun _ => w0⟩
  rcases List.mem_cons.1 hm with e | hm
  ·cases e
  rcases List.mem_cons.1 hm with e | hm
  ·cases e; exact ⟨b, _, t1, g1, .same (zAb _), fun h => by have h : b < 2 := h; omega⟩
  rcases List.mem_cons.1 hm with e | hm
  ·cases e; exact ⟨l, _, t2, g3, .same (zAa layT.g layT.plain _), fun h => by have h : l < 2 := h; omega⟩
  ·cases hm
noncomputable def zTd : Ct Try.prog 0 :=
 CtR.ct { f := 46, X := RnX,
          pre := fun x as0 H _ => as0 = [.pointer (some ⟨x.pb, 0, none⟩), .int .i64 x.a, .string x.s] ∧ H.get x.pb = some (.cells [rnV x.v x.T, .int .i64 (x.en : Int)] 38) ∧ rnAt x.v x.T H ∧ goodT x.T ∧ x.T.length ≤ 1000000000 ∧ shortB x.s = true ∧ pnR x.en x.T x.a x.s x.er x.o x.F,
          out := RnX.res,
          tr := fun x H n K => match x.er with
           | true => K (.ret (.tuple #[.slice none 0 0, .int .i64 (pnE x.en x.a x.s)]) H n [])
           | false => frcN x.pb fun pb => match x.v with
            | none => K (rnO pb none x.T x.a x.o x.F H n)
            | some b => frcN b fun b => K (rnO pb (some b) x.T x.a x.o x.F H n),
          trOk := fun x H n K h => by
           obtain ⟨pb, v, en, T, a, s, er, o, F⟩ := x
           cases er with
           | true => exact h
           | false =>
            have h : (frcN pb fun pb => _) := h
            rw [zCe] at h
            cases v with
            | none => exact h
            | some b =>
             have h : (frcN b fun b => _) := h
             rw [zCe] at h
             exact h,
          ok := fun x as0 H n ⟨h1, h2, h3, h4, h5, h6, h7⟩ => by
           subst h1
           obtain ⟨pb, v, en, T, a, s, er, o, F⟩ := x
           have h7 : pnR en T a s er o F := h7
           cases v with
           | none =>
            have h3 : T = [] := h3
            subst h3
            have h2 : H.get pb = some (.cells [.slice none 0 0, .int .i64 (en : Int)] 38) := h2
            cases er with
            | true =>
             obtain ⟨r, hF, H', m, wr, rfl, hw⟩ := zVv a en s h6 h7.ne
             exact zCc [pb] hF hw zNc (.cons _ _ _ _ (.ptr _ _ _ rfl) (.cons _ _ _ _ (.int _ _) (.cons _ _ _ _ (.string _) .nil))) (zCh ⟨⟨pb, _, rfl, h2, .same rfl⟩, trivial⟩) rfl
            | false =>
             have := rn_ok0 pb en a s h6 H n h2 (o, F) h7.eq (h7.2 rfl)
             cases F <;> exact this
           | some b =>
            obtain ⟨h3, hT0⟩ := h3
            have h2 : H.get pb = some (.cells [.slice (some ⟨b, 0, none⟩) T.length U, .int .i64 (en : Int)] 38) := h2
            cases er with
            | true =>
             have pT : plainL (T.flatMap layT.g) = true := zAa layT.g layT.plain _
             obtain ⟨r, hF, H', m, wr, rfl, hw⟩ := rnameE_fn a en (T.flatMap layT.g) pT T.length s h6 h7.ne
             exact zCc [pb, b] hF hw (zCx (by simp [pb_ne h2 h3])) (.cons _ _ _ _ (.ptr _ _ _ rfl) (.cons _ _ _ _ (.int _ _) (.cons _ _ _ _ (.string _) .nil))) (zCh ⟨⟨pb, _, rfl, h2, zBj (caR [pb, b]) b 1 rfl _ _⟩, ⟨b, _, rfl, h3, .same pT⟩, trivial⟩) rfl
            | false =>
             have := rn_ok1 pb b en T a s h6 h4 h5 hT0 H n h2 h3 (o, F) h7.eq (h7.2 rfl)
             cases F <;> exact this,
          uniq := fun x y as0 H n ⟨h1, h2, h3, _, _, _, h7⟩ ⟨k1, k2, k3, _, _, _, k7⟩ => by
           obtain ⟨pb, v, en, T, a, s, er, o, F⟩ := x
           obtain ⟨pb', v', en', T', a', s', er', o', F'⟩ := y
           rw [h1] at k1
           simp only [List.cons.injEq, Value.pointer.injEq, Option.some.injEq, Addr.mk.injEq, and_true, Value.int.injEq, true_and, Value.string.injEq] at k1
           obtain ⟨rfl, rfl, rfl⟩ := k1
           obtain ⟨rfl, rfl, rfl⟩ := rn_pre h2 k2 h3 k3
           obtain ⟨rfl, e⟩ := pnR.uniq h7 k7
           cases er with
           | true => rfl
           | false => obtain ⟨rfl, rfl⟩ := e rfl; rfl }
end Go.Proofs.Ytmpaeabkdhjamaa
namespace Go.Proofs.Ytmpaeabkdhjamaa
open Go Go.RowKit
theorem zBo {T : List (Bl × Nat)} (hT : goodT T) (a f : Nat) (t : Bl) (o : Nat) : goodT (T ++ (packN T a f t o).2) := by
 obtain ⟨h1, h2⟩ := zGl T a f t o
 refine ⟨?_, fun p hp => ?_⟩
 ·rw [List.map_append, List.nodup_append]
  refine ⟨hT.1, h2, fun x hx y hy e => ?_⟩
  subst e
  obtain ⟨q, hq, rfl⟩ := List.mem_map.1 hy
  exact zEi.1 (h1 q hq).1 hx
 ·rcases List.mem_append.1 hp with h | h
  ·exact hT.2 p h
  ·exact (h1 p h).2.2
theorem zAy (T : List (Bl × Nat)) (a : Nat) : ∀ (f : Nat) (t : Bl) (o : Nat), (packN T a f t o).1.length ≤ t.length + 2
 | 0, _, _ => by simp [packN]
 | f + 1, t, o => by
  unfold packN
  by_cases hc : (t.getD 0 0).toNat = 0
  ·simp only [hc, if_true]; simp
  ·simp only [hc, if_false]
   cases hl : lookT T t with
   | some k => simp
   | none =>
    have ih := zAy T a f (t.drop ((t.getD 0 0).toNat + 1)) (o + (t.getD 0 0).toNat + 1)
    simp only [List.length_append, List.length_take, List.length_drop] at ih ⊢
    omega
def wrN (a : Int) (T : List (Bl × Nat)) : List (Bs × Bool) → Bl → List (Bl × Nat) → Nat → Int × Bl × List (Bl × Nat) × Nat
 | [], out, F, en => (0, out, F, en)
 | (s, false) :: ps, out, F, en => wrN a T ps (out ++ s) F en
 | (s, true) :: ps, out, F, en =>
  let at' := IntKind.i64.wrap (a + (out.length : Int))
  if pnE en at' (mkS s) ≠ 0 then (pnE en at' (mkS s), [], F, en)
  else let r := packN (T ++ F) at'.toNat s.length s 0
   wrN a T ps (out ++ r.1) (F ++ r.2) (at'.toNat + r.1.length)
def pcsD (t : Int) (l : Bs) : List (Bs × Bool) := match ptsT t with | none => [(l, false)] | some _ => outP t l
def wrD (en : Nat) (T : List (Bl × Nat)) (a t : Int) (l : Bs) : Int × Bl × List (Bl × Nat) × Nat :=
 if checkD t l ≠ 0 then (checkD t l, [], [], en) else wrN a T (pcsD t l) [] [] en
theorem zOh (a : Int) {T : List (Bl × Nat)} : ∀ (ps : List (Bs × Bool)) (out : Bl) (F : List (Bl × Nat)) (en : Nat), goodT (T ++ F) → goodT (T ++ (wrN a T ps out F en).2.2.1)
 | [], _, _, _, h => h
 | (s, false) :: ps, out, F, en, h => by unfold wrN; exact zOh a ps _ _ _ h
 | (s, true) :: ps, out, F, en, h => by
  unfold wrN
  simp only []
  split
  ·exact h
  ·refine zOh a ps _ _ _ ?_
   rw [← List.append_assoc]
   exact zBo h _ _ _ _
theorem zUn {en : Nat} {T : List (Bl × Nat)} {a t : Int} {l : Bs} (h : goodT T) : goodT (T ++ (wrD en T a t l).2.2.1) := by
 unfold wrD
 split
 ·simpa using h
 ·exact zOh a _ _ _ _ (by simpa using h)
theorem zCo {en : Nat} {a : Int} {s : ByteArray} (h : pnE en a s = 0) : (0 ≤ a ∧ a ≤ 65535) ∧ en ≤ a ∧ (labels (bs s)).2 = 0 ∧ (bs s).length ≤ 255 := by
 obtain ⟨k, rfl, h1, h2, h3, h4, _⟩ := zJf h
 exact ⟨⟨by omega, by omega⟩, by omega, (zAv _).2 ⟨h3, h4⟩, h4⟩
theorem zSo (a : Int) {T : List (Bl × Nat)} : ∀ (ps : List (Bs × Bool)) (out : Bl) (F : List (Bl × Nat)) (en : Nat), (∀ s, (s, true) ∈ ps → s.length ≤ 255) →
  (wrN a T ps out F en).2.1.length ≤ out.length + sumL ps + 2 * ps.length ∧ (wrN a T ps out F en).2.2.1.length ≤ F.length + 257 * ps.length ∧ ((wrN a T ps out F en).2.2.2 ≤ en ∨ (wrN a T ps out F en).2.2.2 ≤ 65792)
 | [], _, _, _, _ => ⟨by simp [wrN, sumL], by simp [wrN], .inl (Nat.le_refl _)⟩
 | (s, false) :: ps, out, F, en, h => by
  unfold wrN
  obtain ⟨h1, h2, h3⟩ := zSo a (T := T) ps (out ++ s) F en (fun s hs => h s (List.mem_cons_of_mem _ hs))
  refine ⟨?_, by simp only [List.length_cons]; omega, h3⟩
  simp only [sumL, List.flatMap_cons, List.length_append, List.length_cons] at h1 ⊢; omega
 | (s, true) :: ps, out, F, en, h => by
  unfold wrN
  simp only []
  have hs := h s (List.mem_cons_self ..)
  split
  ·exact ⟨by simp, by simp, .inl (Nat.le_refl _)⟩
  ·rename_i he
   have hp := zCo (Decidable.not_not.1 he)
   obtain ⟨r, hr⟩ : ∃ r, packN (T ++ F) (IntKind.i64.wrap (a + (out.length : Int))).toNat s.length s 0 = r := ⟨_, rfl⟩
   have l1 := zAy (T ++ F) (IntKind.i64.wrap (a + (out.length : Int))).toNat s.length s 0
   have l2 := zBd (T ++ F) (IntKind.i64.wrap (a + (out.length : Int))).toNat s.length s 0
   rw [hr] at l1 l2 ⊢
   obtain ⟨h1, h2, h3⟩ := zSo a (T := T) ps (out ++ r.1) (F ++ r.2) ((IntKind.i64.wrap (a + (out.length : Int))).toNat + r.1.length) (fun s hs => h s (List.mem_cons_of_mem _ hs))
   refine ⟨?_, ?_, .inr ?_⟩
   ·simp only [sumL, List.flatMap_cons, List.length_append, List.length_cons] at h1 ⊢; omega
   ·simp only [List.length_append, List.length_cons] at h2 ⊢; omega
   ·rcases h3 with h3 | h3
    ·omega
    ·exact h3
theorem cuts_nm : ∀ (ps : List Pt) (l : Bs) (o : List (Bs × Bool)) (r : Bs), cuts ps l = some (o, r) → ∀ s, (s, true) ∈ o → (labels s).2 = 0 ∧ s.length ≤ 255
 | [], l, o, r, h, s, hs => by simp only [cuts, Option.some.injEq, Prod.mk.injEq] at h; obtain ⟨rfl, _⟩ := h; cases hs
 | p :: ps, l, o, r, h, s, hs => by
  simp only [cuts] at h
  cases hc : p.cut l with
  | none => rw [hc] at h; cases h
  | some n =>
   rw [hc] at h
   simp only [] at h
   obtain ⟨⟨o', r'⟩, h1, h2⟩ := Option.map_eq_some_iff.1 h
   simp only [Prod.mk.injEq] at h2
   obtain ⟨rfl, rfl⟩ := h2
   rcases List.mem_cons.1 hs with e | e
   ·simp only [Prod.mk.injEq] at e
    obtain ⟨rfl, e2⟩ := e
    cases p with
    | nm =>
     obtain ⟨_, k2, k3, k4⟩ := zVg hc
     exact ⟨k4, by omega⟩
    | rest => cases e2
    | sz k => cases e2
   ·exact cuts_nm ps _ _ _ h1 s e
theorem zKh {t : Int} {l : Bs} (h : checkD t l = 0) : (∀ s, (s, true) ∈ pcsD t l → (labels s).2 = 0 ∧ s.length ≤ 255) ∧ sumL (pcsD t l) = l.length ∧ (pcsD t l).length ≤ 3 ∧ l.length ≤ 65535 := by
 obtain ⟨h1, h2, h3, h4⟩ := zCi h
 unfold pcsD
 cases hp : ptsT t with
 | none => exact ⟨fun s hs => by simp at hs, by simp [sumL], by simp, h3⟩
 | some ps =>
  obtain ⟨o, q1, q2⟩ := zNj hp h4
  have e1 : outP t l = o := by unfold outP; rw [q2]
  obtain ⟨w1, w2⟩ := zIy _ _ _ _ q1
  simp only [e1]
  refine ⟨cuts_nm _ _ _ _ q1, ?_, ?_, h3⟩
  ·unfold sumL; rw [List.append_nil] at w2; rw [w2]
  ·rw [w1]
   rcases ptsT_case hp with ⟨_, ⟨_, h⟩ | h⟩
   ·exact h
   ·rw [h]; decide
theorem zip_pcs : ∀ (ps : List Pt) (l : Bs) (o : List (Bs × Bool)) (r : Bs), cuts ps l = some (o, r) → (((ps.map Pt.pr).map Pr.i).zip (o.map (·.1))).map (fun x => (x.2, decide (x.1 = -1))) = o
 | [], l, o, r, h => by simp only [cuts, Option.some.injEq, Prod.mk.injEq] at h; obtain ⟨rfl, _⟩ := h; rfl
 | p :: ps, l, o, r, h => by
  simp only [cuts] at h
  cases hc : p.cut l with
  | none => rw [hc] at h; cases h
  | some n =>
   rw [hc] at h
   simp only [] at h
   obtain ⟨⟨o', r'⟩, h1, h2⟩ := Option.map_eq_some_iff.1 h
   simp only [Prod.mk.injEq] at h2
   obtain ⟨rfl, rfl⟩ := h2
   have ih := zip_pcs ps _ _ _ h1
   simp only [List.map_cons, List.zip_cons_cons, ih]
   congr 1
   cases p with
   | nm => rfl
   | rest => rfl
   | sz k =>
    have hk : ¬ (Pr.sz k).i = -1 := by show ¬ ((k : Nat) : Int) = -1; omega
    show (_, decide ((Pr.sz k).i = -1)) = _
    rw [decide_eq_false hk]; rfl
theorem pcsR_eq {t : Int} {l : Bs} (h : fitsD t l = true) : ((formL t).zip (rpO t l)).map (fun x => (x.2, decide (x.1 = -1))) = pcsD t l ∧ (formL t).length = (rpO t l).length := by
 unfold pcsD
 cases hp : ptsT t with
 | none =>
  have e : rpO t l = [l] := by unfold rpO; rw [zNt hp]; simp [cutsR, Pr.cut]
  have e2 : formL t = [-3] := by rw [(zNs t).1, zNt hp]; rfl
  rw [e, e2]; exact ⟨rfl, rfl⟩
 | some ps =>
  obtain ⟨o, q1, q2⟩ := zNj hp h
  have e1 : outP t l = o := by unfold outP; rw [q2]
  obtain ⟨w1, _⟩ := zIy _ _ _ _ q1
  rw [rpO_of hp q2, (zNs t).1, prT_some hp, zip_pcs ps l o [] q1]
  simp only [e1]
  exact ⟨trivial, by simp [w1]⟩
end Go.Proofs.Ytmpaeabkdhjamaa
namespace Go.Proofs.Ytmpaeabkdhjamaa
open Go Go.RowKit
noncomputable def tbWr : Tb Try.prog 0 := tbOf mixed [zMz, zHs, zNa]
theorem zAp {G : Gh} {b c sz : Nat} {l : Bl} (hs : sz = 1) (hG : (G b).bind AObj.look = some (l.map byV)) : zAw G sz (.slice (some ⟨b, 0, none⟩) l.length c) = some (l.length, l.map byV) := by
 subst hs
 unfold zAw
 cases hl : Nat.beq l.length 0 with
 | true =>
  have : l = [] := List.length_eq_zero_iff.1 (Nat.eq_of_beq_eq_true hl)
  subst this
  simp [hl]
 | false =>
  simp only [hl, cond_false, hG]
  rw [show (0 + l.length * 1).ble (l.map byV).length = true from Nat.ble_eq_true_of_le (by simp)]
  simp only [cond_true, List.drop_zero, Nat.mul_one]
  rw [List.take_of_length_le (by simp)]
theorem oneB (l : Bl) : oneL (l.map byV) = true := by
 induction l with
 | nil => rfl
 | cons x l ih =>
  unfold oneL at ih ⊢
  rw [List.map_cons, List.all_cons, ih]; rfl
theorem map_ro {σ : Nat → Nat → Prop} (T F G : List (Bl × Nat)) (ck : Nat) : RO Try.prog σ (.map (encT ((T ++ F) ++ G)) (ck + F.length + G.length)) (.map (encT (T ++ (F ++ G))) (ck + (F ++ G).length)) := by
 rw [← List.append_assoc, List.length_append, ← Nat.add_assoc]; exact RO.map _ _ _ (zAh _)
theorem zAg {σ : Nat → Nat → Prop} (b b' : Nat) (h : σ b b') (en : Nat) : RO Try.prog σ (.cells [.map (some b), .int .i64 (en : Int)] 73) (.cells [.map (some b'), .int .i64 (en : Int)] 73) := RO.cells [_, _] [] _ _ (.cons _ _ _ _ (.map _ _ h) (.cons _ _ _ _ (.int _ _) .nil))
def wrE (a : Int) (ps : List (Bs × Bool)) (c : Nat) (T : List (Bl × Nat)) (ck : Nat) (i : Nat) (out : Bl) (F : List (Bl × Nat)) (en : Nat) (f : Nat → Option Value) : Fs := match out with
 | [] => ⟨slots 7 [(0, .pointer (some ⟨0, 0, none⟩)), (1, .int .i64 a), (15, .slice none 0 0), (40, .slice (some ⟨2, 0, none⟩) ps.length c), (41, .int .i64 ps.length), (42, .int .i64 (i : Int))] f, heap 3 [(0, .cells [.map (some 1), .int .i64 (en : Int)] 73), (1, .map (encT (T ++ F)) (ck + F.length)), (2, .cells (ps.flatMap pc) 110)], 3, [0, 1], []⟩
 | u :: us => ⟨slots 7 [(0, .pointer (some ⟨0, 0, none⟩)), (1, .int .i64 a), (15, .slice (some ⟨3, 0, none⟩) (us.length + 1) U), (40, .slice (some ⟨2, 0, none⟩) ps.length c), (41, .int .i64 ps.length), (42, .int .i64 (i : Int))] f, heap 3 [(0, .cells [.map (some 1), .int .i64 (en : Int)] 73), (1, .map (encT (T ++ F)) (ck + F.length)), (2, .cells (ps.flatMap pc) 110), (3, .cells ((u :: us).map byV) 5)], 4, [0, 1], []⟩
def wrpS (a : Int) (ps : List (Bs × Bool)) (c : Nat) (T : List (Bl × Nat)) (ck : Nat) (x : Nat × Bl × List (Bl × Nat) × Nat) (f : Nat → Option Value) : Fs := wrE a ps c T ck x.1 x.2.1 x.2.2.1 x.2.2.2 f
theorem wr_loop (a : Int) (ps : List (Bs × Bool)) (c : Nat) (T : List (Bl × Nat)) (ck en0 : Nat) (hT : goodT T) (hps : ∀ p ∈ ps, p.1.length ≤ 65535) (hl : ps.length ≤ 1000) (R : Int × Bl × List (Bl × Nat) × Nat) (hR : wrN a T ps [] [] en0 = R) {s0 : Fs} {K : Ex → Fs → Prop}
  (h0 : ∃ f, RcM Try.prog 0 2 (4 + (Try.f48.ntmps - 4)) none s0 (wrpS a ps c T ck (0, [], [], en0) f))
  (hex : ∀ out F en f, R = (0, out, F, en) → out.length ≤ 100000000 → K (.exit 0) (wrE a ps c T ck ps.length out F en f))
  (hret : ∀ (e : Int) (F : List (Bl × Nat)) (en : Nat) f, e ≠ 0 → R = (e, [], F, en) → K .ret ⟨slots 7 [(8, .slice none 0 0), (9, .int .i64 e)] f, heap 3 [(0, .cells [.map (some 1), .int .i64 (en : Int)] 73), (1, .map (encT (T ++ F)) (ck + F.length))], 2, [0, 1], []⟩) :
  LW Try.prog 0 2 (4 + (Try.f48.ntmps - 4)) none (loopAt Try.f48 0) s0 K := by
 have h1s : (Try.prog.types[5]).size = 1 := by kernel_rfl
 have hby : (Try.prog.types[5]).bytes = 1 := by kernel_rfl
 have h2s : (Try.prog.types[110]).size = 2 := by kernel_rfl
 have pP : plainL (ps.flatMap pc) = true := zAa _ zCl ps
 refine zBs (wrpS a ps c T ck) (fun x => ps.length - x.1) (fun x => x.1 ≤ ps.length ∧ goodT (T ++ x.2.2.1) ∧ x.2.1.length ≤ 70000 * x.1 ∧ wrN a T (ps.drop x.1) x.2.1 x.2.2.1 x.2.2.2 = R) (0, [], [], en0) ⟨Nat.zero_le _, by rw [List.append_nil]; exact hT, Nat.le_refl _, by rw [List.drop_zero]; exact hR⟩ h0 ?_
 rintro ⟨i, out, F, en⟩ f ⟨hi, hg, hol, hR⟩
 have hi : i ≤ ps.length := hi
 have hg : goodT (T ++ F) := hg
 have hol : out.length ≤ 70000 * i := hol
 have hR : wrN a T (ps.drop i) out F en = R := hR
 have hend : ¬ i < ps.length → i = ps.length ∧ R = (0, out, F, en) := fun h => by
  have e : i = ps.length := by omega
  rw [e, List.drop_length] at hR
  exact ⟨e, hR.symm⟩
 have step : ∀ (h : i < ps.length) (s : Bs) (b : Bool), ps[i] = (s, b) → wrN a T ((s, b) :: ps.drop (i + 1)) out F en = R ∧ s.length ≤ 65535 ∧ ((ps.flatMap pc).drop (i * 2)).take 2 = [.string (mkS s), .bool b] := fun h s b e => by
  refine ⟨by rw [← e, ← List.drop_eq_getElem_cons h]; exact hR, ?_, ?_⟩
  ·have := hps _ (List.getElem_mem h)
   rw [e] at this; exact this
  ·have := (zHu pc 2 zHi ps i h).2
   rw [e] at this; exact this
 have ldOK : ∀ (h : i < ps.length), 0 + ((i : Int)).toNat * (Try.prog.types[110]).size + (Try.prog.types[110]).size ≤ (ps.flatMap pc).length := fun h => by
  rw [h2s, Int.toNat_natCast, Nat.zero_add]; exact (zHu pc 2 zHi ps i h).1
 have hdrop : ∀ s b, wrN a T ((s, b) :: ps.drop (i + 1)) out F en = wrN a T ((s, b) :: ps.drop (i + 1)) out F en := fun _ _ => rfl
 cases out with
 | nil =>
  refine zAn tbWr [2, 4] 2 _ none mixed _ _ _ ?_
  refine ifK (fun h1 => ?_) (fun h1 => ?_)
  ·have h1 : i < ps.length := by have := of_decide_eq_true h1; omega
   obtain ⟨s, b, hp⟩ : ∃ s b, ps[i] = (s, b) := ⟨_, _, rfl⟩
   obtain ⟨hR, hsl, hat⟩ := step h1 s b hp
   refine ifK (fun _ => ?_) (fun h2 => absurd h2 (by simp [inI]; omega))
   have hat2 : ((ps.flatMap pc).drop (0 + ((i : Int)).toNat * (Try.prog.types[110]).size)).take (Try.prog.types[110]).size = [.string (mkS s), .bool b] := by rw [h2s, Int.toNat_natCast, Nat.zero_add]; exact hat
   cases b with
   | false =>
    unfold wrN at hR
    refine Exists.intro (mkS s) (Exists.intro false (And.intro ⟨ldOK h1, hat2⟩ ?_))
    cases s with
    | nil =>
     refine ⟨(i + 1, [], F, en), ⟨h1, hg, by show 0 ≤ _; omega, by show wrN a T (ps.drop (i + 1)) _ F en = R; rw [List.append_nil] at hR; exact hR⟩, by show ps.length - (i + 1) < ps.length - i; omega, ?_⟩
     exact rcq [2] ⟨⟨_, rfl, .ptr _ _ _ rfl⟩, ⟨_, rfl, .int _ _⟩, ⟨_, rfl, zAc 8 rfl⟩, ⟨_, rfl, .sl _ _ _ _ _ rfl⟩, ⟨_, rfl, .int _ _⟩, zAe rfl (by rw [wrapN (by omega) (by omega)]; omega), trivial⟩ ⟨⟨by decide, _, rfl, zAg 1 1 (by exact rfl) en⟩, ⟨by decide, _, rfl, RO.map _ _ _ (zAh _)⟩, bpo (pP), trivial⟩ .nil
    | cons x s =>
     refine And.intro (by rw [hby, Bool.and_eq_true]; exact ⟨decide_eq_true (show (x :: s).length * 1 ≤ 140737488355328 by omega), decide_eq_true (show (x :: s).length ≤ 9223372036854775807 by omega)⟩) ?_
     refine ⟨(i + 1, x :: s, F, en), ⟨h1, hg, by show (x :: s).length ≤ _; omega, by show wrN a T (ps.drop (i + 1)) (x :: s) F en = R; exact hR⟩, by show ps.length - (i + 1) < ps.length - i; omega, ?_⟩
     exact rcq [2, 4] ⟨⟨_, rfl, .ptr _ _ _ rfl⟩, ⟨_, rfl, .int _ _⟩, ⟨_, rfl, .sl _ _ _ _ _ rfl⟩, ⟨_, rfl, .sl _ _ _ _ _ rfl⟩, ⟨_, rfl, .int _ _⟩, zAe rfl (by rw [wrapN (by omega) (by omega)]; omega), trivial⟩ ⟨⟨by decide, _, rfl, zAg 1 1 (by exact rfl) en⟩, ⟨by decide, _, rfl, RO.map _ _ _ (zAh _)⟩, bpo (pP), bpo (zAb (x :: s)), trivial⟩ .nil
   | true =>
    obtain ⟨a', ha'⟩ : ∃ a', a' = IntKind.i64.wrap (a + ((0 : Nat) : Int)) := ⟨_, rfl⟩
    unfold wrN at hR
    simp only [show (List.length ([] : Bl)) = 0 from rfl, ← ha'] at hR
    have hsh : shortB (mkS s) = true := by unfold shortB; rw [zAs]; exact Nat.ble_eq_true_of_le (by omega)
    refine Exists.intro (mkS s) (Exists.intro true (And.intro ⟨ldOK h1, hat2⟩ ?_))
    by_cases he : pnE en a' (mkS s) ≠ 0
    ·rw [if_pos he] at hR
     refine Exists.intro (⟨0, 1, en, T ++ F, ck + F.length, a', mkS s, true, [], []⟩ : PkX) (And.intro ⟨(by rw [ha'] <;> rfl), (show Tr.get _ 0 = some (AObj.cells [.map (some 1), .int .i64 (en : Int)] _) from rfl), (show Tr.get _ 1 = some (AObj.map (encT (T ++ F)) (ck + F.length)) from rfl), hg, hsh, (decide_eq_true he).symm, fun h => by cases h⟩ ?_)
     refine ifK (fun _ => ?_) (fun g => absurd (show pnE en a' (mkS s) = 0 by have g : (pnE en a' (mkS s) != 0) = false := g; simpa using g) he)
     refine And.intro rfl (zAi (rcq [] (d := 7) (d2 := 3) (lv := [(8, .slice none 0 0), (9, .int .i64 (pnE en a' (mkS s)))]) (bs := [(0, .cells [.map (some 1), .int .i64 (en : Int)] 73), (1, .map (encT (T ++ F)) (ck + F.length))]) (W := [0, 1]) (m := 2) (df := []) ⟨⟨_, rfl, zAc 8 rfl⟩, ⟨_, rfl, .int _ _⟩, trivial⟩ ⟨⟨by decide, _, rfl, zAg 1 1 (by exact rfl) en⟩, ⟨by decide, _, rfl, RO.map _ _ _ (zAh _)⟩, trivial⟩ .nil) (fun f => ?_))
     exact hret _ F en f he hR.symm
    ·rw [if_neg he] at hR
     have he : pnE en a' (mkS s) = 0 := Decidable.not_not.1 he
     have eb : bs (mkS s) = s := by simp [bs, mkS]
     obtain ⟨⟨p1, p2⟩, p3, p4, p5⟩ := zCo he
     rw [eb] at p4 p5
     have hpos := ((zAv s).1 p4).1.pos
     obtain ⟨r, hr⟩ : ∃ r, packN (T ++ F) a'.toNat s.length s 0 = r := ⟨_, rfl⟩
     have hne := zCj (T ++ F) a'.toNat s.length s 0 hpos
     have hl1 := zAy (T ++ F) a'.toNat s.length s 0
     have hgd := zBo hg a'.toNat s.length s 0
     rw [hr] at hne hl1 hgd hR
     obtain ⟨o, F'⟩ := r
     cases o with
     | nil => exact absurd rfl hne
     | cons v vs =>
      have hvl : vs.length + 1 ≤ s.length + 2 := hl1
      refine Exists.intro (⟨0, 1, en, T ++ F, ck + F.length, a', mkS s, false, v :: vs, F'⟩ : PkX) (And.intro ⟨(by rw [ha'] <;> rfl), (show Tr.get _ 0 = some (AObj.cells [.map (some 1), .int .i64 (en : Int)] _) from rfl), (show Tr.get _ 1 = some (AObj.map (encT (T ++ F)) (ck + F.length)) from rfl), hg, hsh, (decide_eq_false (not_not_intro he)).symm, fun _ => by rw [eb]; exact hr⟩ ?_)
      refine Exists.intro ((v :: vs).map byV) (And.intro (zAp (l := v :: vs) h1s rfl) ?_)
      refine And.intro (by rw [hby]; simp only [Bool.and_eq_true]; exact ⟨decide_eq_true (by simp; omega), decide_eq_true (by simp; omega)⟩) ?_
      refine ⟨(i + 1, v :: vs, F ++ F', a'.toNat + (vs.length + 1)), ⟨h1, by rw [← List.append_assoc]; exact hgd, by show (v :: vs).length ≤ _; simp; omega, by show wrN a T (ps.drop (i + 1)) _ _ _ = R; exact hR⟩, by show ps.length - (i + 1) < ps.length - i; omega, ?_⟩
      exact rcq [2, 5] ⟨⟨_, rfl, .ptr _ _ _ rfl⟩, ⟨_, rfl, .int _ _⟩, ⟨_, rfl, .sl _ _ _ _ _ rfl⟩, ⟨_, rfl, .sl _ _ _ _ _ rfl⟩, ⟨_, rfl, .int _ _⟩, zAe rfl (by rw [wrapN (by omega) (by omega)]; omega), trivial⟩ ⟨⟨by decide, _, rfl, zAg 1 1 (by exact rfl) _⟩, ⟨by decide, _, rfl, map_ro T F F' ck⟩, bpo (pP), bpo (zAb (v :: vs)), trivial⟩ .nil
  ·obtain ⟨e1, e2⟩ := hend (by have := of_decide_eq_false h1; omega)
   subst e1
   refine And.intro rfl (zAi (rcq [2] (d := 7) (d2 := 3) (lv := [(0, .pointer (some ⟨0, 0, none⟩)), (1, .int .i64 a), (15, .slice none 0 0), (40, .slice (some ⟨2, 0, none⟩) ps.length c), (41, .int .i64 ps.length), (42, .int .i64 ps.length)]) (bs := [(0, .cells [.map (some 1), .int .i64 (en : Int)] 73), (1, .map (encT (T ++ F)) (ck + F.length)), (2, .cells (ps.flatMap pc) 110)]) (W := [0, 1]) (m := 3) (df := []) ⟨⟨_, rfl, .ptr _ _ _ rfl⟩, ⟨_, rfl, .int _ _⟩, ⟨_, rfl, zAc 8 rfl⟩, ⟨_, rfl, .sl _ _ _ _ _ rfl⟩, ⟨_, rfl, .int _ _⟩, ⟨_, rfl, .int _ _⟩, trivial⟩ ⟨⟨by decide, _, rfl, zAg 1 1 (by exact rfl) en⟩, ⟨by decide, _, rfl, RO.map _ _ _ (zAh _)⟩, bpo (pP), trivial⟩ .nil) (fun f => ?_))
   exact hex _ F en f e2 (by first | (show us.length + 1 ≤ _; have := hl; have := hol; omega) | simp)
 | cons u us =>
  have hol : us.length + 1 ≤ 70000 * i := hol
  refine zAn tbWr [2, 5] 2 _ none mixed _ _ _ ?_
  refine ifK (fun h1 => ?_) (fun h1 => ?_)
  ·have h1 : i < ps.length := by have := of_decide_eq_true h1; omega
   obtain ⟨s, b, hp⟩ : ∃ s b, ps[i] = (s, b) := ⟨_, _, rfl⟩
   obtain ⟨hR, hsl, hat⟩ := step h1 s b hp
   refine ifK (fun _ => ?_) (fun h2 => absurd h2 (by simp [inI]; omega))
   have hat2 : ((ps.flatMap pc).drop (0 + ((i : Int)).toNat * (Try.prog.types[110]).size)).take (Try.prog.types[110]).size = [.string (mkS s), .bool b] := by rw [h2s, Int.toNat_natCast, Nat.zero_add]; exact hat
   cases b with
   | false =>
    unfold wrN at hR
    refine Exists.intro (mkS s) (Exists.intro false (And.intro ⟨ldOK h1, hat2⟩ ?_))
    cases s with
    | nil =>
     refine ⟨(i + 1, u :: us, F, en), ⟨h1, hg, by show us.length + 1 ≤ _; omega, by show wrN a T (ps.drop (i + 1)) _ F en = R; rw [List.append_nil] at hR; exact hR⟩, by show ps.length - (i + 1) < ps.length - i; omega, ?_⟩
     exact rcq [2, 3] ⟨⟨_, rfl, .ptr _ _ _ rfl⟩, ⟨_, rfl, .int _ _⟩, ⟨_, rfl, .sl _ _ _ _ _ rfl⟩, ⟨_, rfl, .sl _ _ _ _ _ rfl⟩, ⟨_, rfl, .int _ _⟩, zAe rfl (by rw [wrapN (by omega) (by omega)]; omega), trivial⟩ ⟨⟨by decide, _, rfl, zAg 1 1 (by exact rfl) en⟩, ⟨by decide, _, rfl, RO.map _ _ _ (zAh _)⟩, bpo (pP), bpo (zAb (u :: us)), trivial⟩ .nil
    | cons x s =>
     have hone : oneL ((x :: s).map byV) = true := oneB _
     have hsl : s.length + 1 ≤ 65535 := hsl
     refine And.intro (by rw [h1s, hby]; simp only [Bool.and_eq_true, decide_eq_true_eq]; exact ⟨⟨⟨⟨⟨⟨rfl, rfl⟩, Nat.ble_eq_true_of_le (by simp)⟩, hone⟩, (show (us.length + 1 + (s.length + 1)) * 1 ≤ 140737488355328 by omega)⟩, (show us.length + 1 + (s.length + 1) ≤ 9223372036854775807 by omega)⟩, Nat.ble_eq_true_of_le (by simp [mkS] <;> omega)⟩) ?_
     refine ⟨(i + 1, u :: (us ++ x :: s), F, en), ⟨h1, hg, by show (u :: (us ++ x :: s)).length ≤ _; simp at hsl ⊢; omega, by show wrN a T (ps.drop (i + 1)) _ F en = R; exact hR⟩, by show ps.length - (i + 1) < ps.length - i; omega, ?_⟩
     have ec : (List.take ((us.length + 1) * 1) (byV u :: us.map byV)) ++ (x :: s).map byV = (u :: (us ++ x :: s)).map byV := by rw [Nat.mul_one, List.take_of_length_le (by simp)]; simp
     have el : us.length + 1 + (x :: s).length = (us ++ x :: s).length + 1 := by simp; omega
     exact rcq [2, 5] ⟨⟨_, rfl, .ptr _ _ _ rfl⟩, ⟨_, rfl, .int _ _⟩, ⟨_, rfl, by show RV _ (.slice _ (us.length + 1 + (x :: s).length) U) _; rw [el]; exact .sl _ _ _ _ _ rfl⟩, ⟨_, rfl, .sl _ _ _ _ _ rfl⟩, ⟨_, rfl, .int _ _⟩, zAe rfl (by rw [wrapN (by omega) (by omega)]; omega), trivial⟩ ⟨⟨by decide, _, rfl, zAg 1 1 (by exact rfl) en⟩, ⟨by decide, _, rfl, RO.map _ _ _ (zAh _)⟩, bpo (pP), ⟨by decide, _, rfl, zBb (by rw [← ec]; rfl) (zAb _)⟩, trivial⟩ .nil
   | true =>
    obtain ⟨a', ha'⟩ : ∃ a', a' = IntKind.i64.wrap (a + (((us.length + 1) : Nat) : Int)) := ⟨_, rfl⟩
    unfold wrN at hR
    simp only [show (List.length (u :: us)) = (us.length + 1) from rfl, ← ha'] at hR
    have hsh : shortB (mkS s) = true := by unfold shortB; rw [zAs]; exact Nat.ble_eq_true_of_le (by omega)
    refine Exists.intro (mkS s) (Exists.intro true (And.intro ⟨ldOK h1, hat2⟩ ?_))
    by_cases he : pnE en a' (mkS s) ≠ 0
    ·rw [if_pos he] at hR
     refine Exists.intro (⟨0, 1, en, T ++ F, ck + F.length, a', mkS s, true, [], []⟩ : PkX) (And.intro ⟨(by rw [ha'] <;> rfl), (show Tr.get _ 0 = some (AObj.cells [.map (some 1), .int .i64 (en : Int)] _) from rfl), (show Tr.get _ 1 = some (AObj.map (encT (T ++ F)) (ck + F.length)) from rfl), hg, hsh, (decide_eq_true he).symm, fun h => by cases h⟩ ?_)
     refine ifK (fun _ => ?_) (fun g => absurd (show pnE en a' (mkS s) = 0 by have g : (pnE en a' (mkS s) != 0) = false := g; simpa using g) he)
     refine And.intro rfl (zAi (rcq [] (d := 7) (d2 := 3) (lv := [(8, .slice none 0 0), (9, .int .i64 (pnE en a' (mkS s)))]) (bs := [(0, .cells [.map (some 1), .int .i64 (en : Int)] 73), (1, .map (encT (T ++ F)) (ck + F.length))]) (W := [0, 1]) (m := 2) (df := []) ⟨⟨_, rfl, zAc 8 rfl⟩, ⟨_, rfl, .int _ _⟩, trivial⟩ ⟨⟨by decide, _, rfl, zAg 1 1 (by exact rfl) en⟩, ⟨by decide, _, rfl, RO.map _ _ _ (zAh _)⟩, trivial⟩ .nil) (fun f => ?_))
     exact hret _ F en f he hR.symm
    ·rw [if_neg he] at hR
     have he : pnE en a' (mkS s) = 0 := Decidable.not_not.1 he
     have eb : bs (mkS s) = s := by simp [bs, mkS]
     obtain ⟨⟨p1, p2⟩, p3, p4, p5⟩ := zCo he
     rw [eb] at p4 p5
     have hpos := ((zAv s).1 p4).1.pos
     obtain ⟨r, hr⟩ : ∃ r, packN (T ++ F) a'.toNat s.length s 0 = r := ⟨_, rfl⟩
     have hne := zCj (T ++ F) a'.toNat s.length s 0 hpos
     have hl1 := zAy (T ++ F) a'.toNat s.length s 0
     have hgd := zBo hg a'.toNat s.length s 0
     rw [hr] at hne hl1 hgd hR
     obtain ⟨o, F'⟩ := r
     cases o with
     | nil => exact absurd rfl hne
     | cons v vs =>
      have hvl : vs.length + 1 ≤ s.length + 2 := hl1
      refine Exists.intro (⟨0, 1, en, T ++ F, ck + F.length, a', mkS s, false, v :: vs, F'⟩ : PkX) (And.intro ⟨(by rw [ha'] <;> rfl), (show Tr.get _ 0 = some (AObj.cells [.map (some 1), .int .i64 (en : Int)] _) from rfl), (show Tr.get _ 1 = some (AObj.map (encT (T ++ F)) (ck + F.length)) from rfl), hg, hsh, (decide_eq_false (not_not_intro he)).symm, fun _ => by rw [eb]; exact hr⟩ ?_)
      refine Exists.intro ((v :: vs).map byV) (And.intro (zAp (l := v :: vs) h1s rfl) ?_)
      have hone : oneL ((v :: vs).map byV) = true := oneB _
      refine And.intro (by rw [h1s, hby]; simp only [Bool.and_eq_true, decide_eq_true_eq]; exact ⟨⟨⟨⟨⟨⟨rfl, rfl⟩, Nat.ble_eq_true_of_le (by simp)⟩, hone⟩, (by simp; omega)⟩, (by simp; omega)⟩, Nat.ble_eq_true_of_le (by simp <;> omega)⟩) ?_
      have ec : (List.take ((us.length + 1) * 1) (byV u :: us.map byV)) ++ (v :: vs).map byV = (u :: (us ++ v :: vs)).map byV := by rw [Nat.mul_one, List.take_of_length_le (by simp)]; simp
      have el : us.length + 1 + (v :: vs).length = (us ++ v :: vs).length + 1 := by simp; omega
      refine ⟨(i + 1, u :: (us ++ v :: vs), F ++ F', a'.toNat + (vs.length + 1)), ⟨h1, by rw [← List.append_assoc]; exact hgd, by show (u :: (us ++ v :: vs)).length ≤ _; simp; omega, by show wrN a T (ps.drop (i + 1)) _ _ _ = R; exact hR⟩, by show ps.length - (i + 1) < ps.length - i; omega, ?_⟩
      exact rcq [2, 6] ⟨⟨_, rfl, .ptr _ _ _ rfl⟩, ⟨_, rfl, .int _ _⟩, ⟨_, rfl, by show RV _ (.slice _ (us.length + 1 + (v :: vs).length) U) _; rw [el]; exact .sl _ _ _ _ _ rfl⟩, ⟨_, rfl, .sl _ _ _ _ _ rfl⟩, ⟨_, rfl, .int _ _⟩, zAe rfl (by rw [wrapN (by omega) (by omega)]; omega), trivial⟩ ⟨⟨by decide, _, rfl, zAg 1 1 (by exact rfl) _⟩, ⟨by decide, _, rfl, map_ro T F F' ck⟩, bpo (pP), ⟨by decide, _, rfl, zBb (by rw [← ec]; rfl) (zAb _)⟩, trivial⟩ .nil
  ·obtain ⟨e1, e2⟩ := hend (by have := of_decide_eq_false h1; omega)
   subst e1
   refine And.intro rfl (zAi (rcq [2, 3] (d := 7) (d2 := 3) (lv := [(0, .pointer (some ⟨0, 0, none⟩)), (1, .int .i64 a), (15, .slice (some ⟨3, 0, none⟩) (us.length + 1) U), (40, .slice (some ⟨2, 0, none⟩) ps.length c), (41, .int .i64 ps.length), (42, .int .i64 ps.length)]) (bs := [(0, .cells [.map (some 1), .int .i64 (en : Int)] 73), (1, .map (encT (T ++ F)) (ck + F.length)), (2, .cells (ps.flatMap pc) 110), (3, .cells ((u :: us).map byV) 5)]) (W := [0, 1]) (m := 4) (df := []) ⟨⟨_, rfl, .ptr _ _ _ rfl⟩, ⟨_, rfl, .int _ _⟩, ⟨_, rfl, .sl _ _ _ _ _ rfl⟩, ⟨_, rfl, .sl _ _ _ _ _ rfl⟩, ⟨_, rfl, .int _ _⟩, ⟨_, rfl, .int _ _⟩, trivial⟩ ⟨⟨by decide, _, rfl, zAg 1 1 (by exact rfl) en⟩, ⟨by decide, _, rfl, RO.map _ _ _ (zAh _)⟩, bpo (pP), bpo (zAb (u :: us)), trivial⟩ .nil) (fun f => ?_))
   exact hex _ F en f e2 (by first | (show us.length + 1 ≤ _; have := hl; have := hol; omega) | simp)
end Go.Proofs.Ytmpaeabkdhjamaa
namespace Go.Proofs.Ytmpaeabkdhjamaa
open Go Go.RowKit
noncomputable def tbWq : Tb Try.prog 0 := tbOf mixed [zJu, ct_form, zOu, zTd]
def pcZ (x : Int × Bs) : Bs × Bool := (x.2, decide (x.1 = -1))
theorem zFw {T F G : List (Bl × Nat)} : (((T ++ F) ++ G).flatMap layT.g) = ((T ++ (F ++ G)).flatMap layT.g) := by rw [List.append_assoc]
theorem zAj (T : List (Bl × Nat)) : plainL (T.flatMap layT.g) = true := zAa layT.g layT.plain _
theorem zAr {σ : Nat → Nat → Prop} (k b : Nat) (h : σ k b) {c c' : Nat} (e : c = c') (en : Nat) : RO Try.prog σ (.cells [.slice (some ⟨k, 0, none⟩) c U, .int .i64 (en : Int)] 38) (.cells [.slice (some ⟨b, 0, none⟩) c' U, .int .i64 (en : Int)] 38) := by subst e; exact zBj σ k b h c en
theorem zEg {T F G : List (Bl × Nat)} : (T ++ F ++ G).length = (T ++ (F ++ G)).length := by rw [List.append_assoc]
theorem zMv : (Try.prog.types[5]).size = 1 ∧ (Try.prog.types[5]).bytes = 1 := ⟨by kernel_rfl, by kernel_rfl⟩
theorem zFc {u : UInt8} {us o : Bl} (h1 : us.length ≤ 100000000) (h2 : o.length ≤ 100000000) (h3 : 0 < o.length) : (Nat.beq 0 0 && Nat.beq 5 5 && ((us.length + 1) * (Try.prog.types[5]).size).ble ((u :: us).map byV).length && oneL (o.map byV) && decide ((us.length + 1 + o.length) * (Try.prog.types[5]).bytes ≤ 140737488355328) && decide (us.length + 1 + o.length ≤ 9223372036854775807) && ((u :: us).map byV).length.blt (0 + (us.length + 1) * (Try.prog.types[5]).size + (o.map byV).length)) = true := by
 rw [zMv.1, zMv.2]; simp only [Bool.and_eq_true, decide_eq_true_eq]
 exact ⟨⟨⟨⟨⟨⟨rfl, (by simp)⟩, Nat.ble_eq_true_of_le (by simp)⟩, oneB _⟩, (by omega)⟩, (by omega)⟩, Nat.ble_eq_true_of_le (by simp <;> omega)⟩
theorem zHq {o : Bl} (h : o.length ≤ 100000000) : (decide (o.length * (Try.prog.types[5]).bytes ≤ 140737488355328) && decide (o.length ≤ 9223372036854775807)) = true := by
 rw [zMv.2, Bool.and_eq_true]; exact ⟨decide_eq_true (by omega), decide_eq_true (by omega)⟩
theorem zFd {σ : Nat → Nat → Prop} (u : UInt8) (us o : Bl) : RO Try.prog σ (.cells (List.take ((us.length + 1) * 1) (byV u :: us.map byV) ++ o.map byV) 5) (.cells ((u :: (us ++ o)).map byV) 5) := by
 refine zBb ?_ (zAb _)
 rw [Nat.mul_one, List.take_of_length_le (by simp)]; simp
theorem zDl {us : Bl} {o : Bl} : us.length + 1 + o.length = (us ++ o).length + 1 := by simp; omega
def rwoE (a : Int) (Z : List (Int × Bs)) (T : List (Bl × Nat)) (i : Nat) (out : Bl) (F : List (Bl × Nat)) (en : Nat) (f : Nat → Option Value) : Fs := match out, F with
 | [], _ => ⟨slots 7 [(0, .pointer (some ⟨0, 0, none⟩)), (1, .int .i64 a), (11, .slice (some ⟨2, 0, none⟩) Z.length Z.length), (12, .slice (some ⟨3, 0, none⟩) Z.length U), (14, .slice none 0 0), (15, .int .i64 (i : Int))] f, heap 4 [(0, .cells [.slice (some ⟨1, 0, none⟩) T.length U, .int .i64 (en : Int)] 38), (1, .cells (T.flatMap layT.g) 107), (2, .cells (Z.map zi) 3), (3, .cells (Z.map zs) 9)], 4, [0, 1], []⟩
 | u :: us, [] => ⟨slots 7 [(0, .pointer (some ⟨0, 0, none⟩)), (1, .int .i64 a), (11, .slice (some ⟨2, 0, none⟩) Z.length Z.length), (12, .slice (some ⟨3, 0, none⟩) Z.length U), (14, .slice (some ⟨4, 0, none⟩) (us.length + 1) U), (15, .int .i64 (i : Int))] f, heap 4 [(0, .cells [.slice (some ⟨1, 0, none⟩) T.length U, .int .i64 (en : Int)] 38), (1, .cells (T.flatMap layT.g) 107), (2, .cells (Z.map zi) 3), (3, .cells (Z.map zs) 9), (4, .cells ((u :: us).map byV) 5)], 5, [0, 1], []⟩
 | u :: us, p :: F => ⟨slots 7 [(0, .pointer (some ⟨0, 0, none⟩)), (1, .int .i64 a), (11, .slice (some ⟨2, 0, none⟩) Z.length Z.length), (12, .slice (some ⟨3, 0, none⟩) Z.length U), (14, .slice (some ⟨5, 0, none⟩) (us.length + 1) U), (15, .int .i64 (i : Int))] f, heap 4 [(0, .cells [.slice (some ⟨4, 0, none⟩) (T ++ p :: F).length U, .int .i64 (en : Int)] 38), (2, .cells (Z.map zi) 3), (3, .cells (Z.map zs) 9), (4, .cells ((T ++ p :: F).flatMap layT.g) 107), (5, .cells ((u :: us).map byV) 5)], 6, [0, 1], []⟩
def rwoS (a : Int) (Z : List (Int × Bs)) (T : List (Bl × Nat)) (x : Nat × Bl × List (Bl × Nat) × Nat) (f : Nat → Option Value) : Fs := rwoE a Z T x.1 x.2.1 x.2.2.1 x.2.2.2 f
def rwoR (_ : Int) (T : List (Bl × Nat)) (F : List (Bl × Nat)) (en : Nat) (e : Int) (f : Nat → Option Value) : Fs := match F with
 | [] => ⟨slots 7 [(8, .slice none 0 0), (9, .int .i64 e)] f, heap 3 [(0, .cells [.slice (some ⟨1, 0, none⟩) T.length U, .int .i64 (en : Int)] 38), (1, .cells (T.flatMap layT.g) 107)], 2, [0, 1], []⟩
 | p :: F => ⟨slots 7 [(8, .slice none 0 0), (9, .int .i64 e)] f, heap 3 [(0, .cells [.slice (some ⟨2, 0, none⟩) (T ++ p :: F).length U, .int .i64 (en : Int)] 38), (2, .cells ((T ++ p :: F).flatMap layT.g) 107)], 3, [0, 1], []⟩
theorem rwo_loop (a : Int) (Z : List (Int × Bs)) (T : List (Bl × Nat)) (en0 : Nat) (hT : goodT T) (hT0 : T ≠ []) (hTl : T.length ≤ 900000000) (hps : ∀ p ∈ Z, p.2.length ≤ 65535) (hl : Z.length ≤ 1000) (R : Int × Bl × List (Bl × Nat) × Nat) (hR : wrN a T (Z.map pcZ) [] [] en0 = R) {s0 : Fs} {K : Ex → Fs → Prop}
  (h0 : ∃ f, RcM Try.prog 0 2 (4 + (Try.f50.ntmps - 4)) none s0 (rwoS a Z T (0, [], [], en0) f))
  (hex : ∀ out F en f, R = (0, out, F, en) → (out = [] → F = []) → out.length ≤ 100000000 → K (.exit 0) (rwoE a Z T Z.length out F en f))
  (hret : ∀ (e : Int) (F : List (Bl × Nat)) (en : Nat) f, e ≠ 0 → R = (e, [], F, en) → K .ret (rwoR a T F en e f)) :
  LW Try.prog 0 2 (4 + (Try.f50.ntmps - 4)) none (loopAt Try.f50 0) s0 K := by
 have h1s : (Try.prog.types[5]).size = 1 := by kernel_rfl
 have h3s : (Try.prog.types[3]).size = 1 := by kernel_rfl
 have h9s : (Try.prog.types[9]).size = 1 := by kernel_rfl
 refine zBs (rwoS a Z T ) (fun x => Z.length - x.1) (fun x => x.1 ≤ Z.length ∧ goodT (T ++ x.2.2.1) ∧ x.2.1.length ≤ 70000 * x.1 ∧ x.2.2.1.length ≤ 257 * x.1 ∧ (x.2.1 = [] → x.2.2.1 = []) ∧ wrN a T ((Z.map pcZ).drop x.1) x.2.1 x.2.2.1 x.2.2.2 = R) (0, [], [], en0) ⟨Nat.zero_le _, by rw [List.append_nil]; exact hT, Nat.le_refl _, Nat.le_refl _, fun _ => rfl, by rw [List.drop_zero]; exact hR⟩ h0 ?_
 rintro ⟨i, out, F, en⟩ f ⟨hi, hg, hol, hFl, hoF, hR⟩
 have hi : i ≤ Z.length := hi
 have hg : goodT (T ++ F) := hg
 have hol : out.length ≤ 70000 * i := hol
 have hFl : F.length ≤ 257 * i := hFl
 have hoF : out = [] → F = [] := hoF
 have hR : wrN a T ((Z.map pcZ).drop i) out F en = R := hR
 have hend : ¬ i < Z.length → i = Z.length ∧ R = (0, out, F, en) := fun h => by
  have e : i = Z.length := by omega
  rw [e, List.drop_of_length_le (by simp)] at hR
  exact ⟨e, hR.symm⟩
 have step : ∀ (h : i < Z.length) (k : Int) (s : Bs), Z[i] = (k, s) → wrN a T ((s, decide (k = -1)) :: (Z.map pcZ).drop (i + 1)) out F en = R ∧ s.length ≤ 65535 ∧ (Z.map zs)[0 + ((i : Int)).toNat * (Try.prog.types[9]).size]? = some (.string (mkS s)) ∧ (Z.map zi)[0 + ((i : Int)).toNat * (Try.prog.types[3]).size]? = some (.int .i64 k) := fun h k s e => by
  have hm : i < (Z.map pcZ).length := by rw [List.length_map]; exact h
  refine ⟨?_, ?_, ?_, ?_⟩
  ·rw [← hR, List.drop_eq_getElem_cons hm, List.getElem_map, e]; rfl
  ·have := hps _ (List.getElem_mem h)
   rw [e] at this; exact this
  ·rw [h9s, Int.toNat_natCast, Nat.zero_add, Nat.mul_one]; simp [h, e, zs, str, mkS]
  ·rw [h3s, Int.toNat_natCast, Nat.zero_add, Nat.mul_one]; simp [h, e, zi, intV]
 cases out with
 | nil =>
  have hF0 : F = [] := hoF rfl
  subst hF0
  have hFT : goodT (T ++ ([] : List (Bl × Nat))) := hg
  refine zAn tbWq [2, 3, 4, 5] 2 _ none mixed _ _ _ ?_
  refine ifK (fun h1 => ?_) (fun h1 => ?_)
  ·have h1 : i < Z.length := by have := of_decide_eq_true h1; omega
   obtain ⟨k, s, hp⟩ : ∃ k s, Z[i] = (k, s) := ⟨_, _, rfl⟩
   obtain ⟨hR, hsl, hat1, hat2⟩ := step h1 k s hp
   have hdom : inI (i : Int) Z.length = true := by simp [inI]; omega
   refine ifK (fun _ => ?_) (fun h2 => absurd (hdom.symm.trans h2) (by decide))
   refine Exists.intro (mkS s) (And.intro hat1 ?_)
   refine ifK (fun _ => ?_) (fun h2 => absurd (of_decide_eq_false h2) (not_not_intro (show s.length ≤ 9223372036854775807 by omega)))
   refine ifK (fun _ => ?_) (fun h2 => absurd (hdom.symm.trans h2) (by decide))
   refine Exists.intro k (And.intro hat2 ?_)
   refine ifK (fun hk => ?_) (fun hk => ?_)
   ·have hk : k = -1 := by simpa using hk
    rw [decide_eq_true hk] at hR
    refine ifK (fun _ => ?_) (fun h2 => absurd (hdom.symm.trans h2) (by decide))
    refine Exists.intro (mkS s) (And.intro hat1 ?_)
    obtain ⟨a', ha'⟩ : ∃ a', a' = IntKind.i64.wrap (a + ((0 : Nat) : Int)) := ⟨_, rfl⟩
    unfold wrN at hR
    simp only [show (List.length ([] : Bl)) = 0 from rfl, ← ha'] at hR
    have hsh : shortB (mkS s) = true := by unfold shortB; rw [zAs]; exact Nat.ble_eq_true_of_le (by omega)
    have hTT : (T ++ ([] : List (Bl × Nat))).length ≤ 1000000000 := by have := hFl; simp only [List.length_append] at this ⊢; simp at this ⊢ <;> omega
    by_cases he : pnE en a' (mkS s) ≠ 0
    ·rw [if_pos he] at hR
     refine Exists.intro (⟨0, some 1, en, T ++ ([] : List (Bl × Nat)), a', mkS s, true, [], []⟩ : RnX) (And.intro ⟨(by rw [ha'] <;> rfl), (show Tr.get _ 0 = some (AObj.cells [.slice (some ⟨1, 0, none⟩) (T ++ ([] : List (Bl × Nat))).length U, .int .i64 (en : Int)] _) from (by rw [List.append_nil] <;> rfl)), ⟨(show Tr.get _ 1 = some (AObj.cells ((T ++ ([] : List (Bl × Nat))).flatMap layT.g) _) from (by rw [List.append_nil] <;> rfl)), (by rw [List.append_nil]; exact hT0)⟩, hFT, hTT, hsh, (decide_eq_true he).symm, fun h => by cases h⟩ ?_)
     refine ifK (fun _ => ?_) (fun g => absurd (show pnE en a' (mkS s) = 0 by have g : (pnE en a' (mkS s) != 0) = false := g; simpa using g) he)
     refine And.intro rfl (zAi (rcq [] (d := 7) (d2 := 3) (lv := [(8, .slice none 0 0), (9, .int .i64 (pnE en a' (mkS s)))]) (bs := [(0, .cells [.slice (some ⟨1, 0, none⟩) T.length U, .int .i64 (en : Int)] 38), (1, .cells (T.flatMap layT.g) 107)]) (W := [0, 1]) (m := 2) (df := []) ⟨⟨_, rfl, zAc 8 rfl⟩, ⟨_, rfl, .int _ _⟩, trivial⟩ ⟨⟨by decide, _, rfl, zBj _ 1 1 (by rfl) _ _⟩, bpo (zAj T), trivial⟩ .nil) (fun f => ?_))
     exact hret _ ([] : List (Bl × Nat)) en f he hR.symm
    ·rw [if_neg he] at hR
     have he : pnE en a' (mkS s) = 0 := Decidable.not_not.1 he
     have eb : bs (mkS s) = s := by simp [bs, mkS]
     obtain ⟨⟨p1, p2⟩, p3, p4, p5⟩ := zCo he
     rw [eb] at p4 p5
     have hpos := ((zAv s).1 p4).1.pos
     obtain ⟨r, hr⟩ : ∃ r, packN (T ++ ([] : List (Bl × Nat))) a'.toNat s.length s 0 = r := ⟨_, rfl⟩
     have hne := zCj (T ++ ([] : List (Bl × Nat))) a'.toNat s.length s 0 hpos
     have hl1 := zAy (T ++ ([] : List (Bl × Nat))) a'.toNat s.length s 0
     have hl2 := zBd (T ++ ([] : List (Bl × Nat))) a'.toNat s.length s 0
     have hgd := zBo hFT a'.toNat s.length s 0
     rw [hr] at hne hl1 hl2 hgd hR
     obtain ⟨o, G⟩ := r
     cases o with
     | nil => exact absurd rfl hne
     | cons v vs =>
      have hvl : vs.length + 1 ≤ s.length + 2 := hl1
      have hl2 : G.length ≤ vs.length + 1 := hl2
      have hAll : goodT (T ++ (([] : List (Bl × Nat)) ++ G)) := by rw [← List.append_assoc]; exact hgd
      cases G with
      | nil =>
       refine Exists.intro (⟨0, some 1, en, T ++ ([] : List (Bl × Nat)), a', mkS s, false, v :: vs, []⟩ : RnX) (And.intro ⟨(by rw [ha'] <;> rfl), (show Tr.get _ 0 = some (AObj.cells [.slice (some ⟨1, 0, none⟩) (T ++ ([] : List (Bl × Nat))).length U, .int .i64 (en : Int)] _) from (by rw [List.append_nil] <;> rfl)), ⟨(show Tr.get _ 1 = some (AObj.cells ((T ++ ([] : List (Bl × Nat))).flatMap layT.g) _) from (by rw [List.append_nil] <;> rfl)), (by rw [List.append_nil]; exact hT0)⟩, hFT, hTT, hsh, (decide_eq_false (not_not_intro he)).symm, fun _ => by rw [eb]; exact hr⟩ ?_)
       refine Exists.intro ((v :: vs).map byV) (And.intro (zAp (l := v :: vs) h1s rfl) ?_)
       refine And.intro (zHq (o := v :: vs) (show vs.length + 1 ≤ _ by omega)) ?_
       refine ⟨(i + 1, v :: vs, [], a'.toNat + (vs.length + 1)), ⟨h1, (by have := hAll; rw [List.append_nil] at this; exact this), (by show List.length _ ≤ _; simp <;> omega), (by show List.length _ ≤ _; simp at hFl hl2 ⊢ <;> omega), (fun h => by cases h), (by show wrN a T ((Z.map pcZ).drop (i + 1)) _ _ _ = R; rw [List.append_nil] at hR; exact hR)⟩, (by show Z.length - (i + 1) < Z.length - i; omega), ?_⟩
       exact rcq [2, 3, 6] ⟨⟨_, rfl, .ptr _ _ _ rfl⟩, ⟨_, rfl, .int _ _⟩, ⟨_, rfl, .sl _ _ _ _ _ rfl⟩, ⟨_, rfl, .sl _ _ _ _ _ rfl⟩, ⟨_, rfl, .sl _ _ _ _ _ rfl⟩, zAe rfl (by rw [wrapN (by omega) (by omega)]; omega), trivial⟩ ⟨⟨by decide, _, rfl, zAr 1 1 (by rfl) (by rw [List.append_nil]) _⟩, bpo (zAj T), bpo (zAl _), bpo (zAm _), bpo (zAb (v :: vs)), trivial⟩ .nil
      | cons q G =>
       refine Exists.intro (⟨0, some 1, en, T ++ ([] : List (Bl × Nat)), a', mkS s, false, v :: vs, (q :: G)⟩ : RnX) (And.intro ⟨(by rw [ha'] <;> rfl), (show Tr.get _ 0 = some (AObj.cells [.slice (some ⟨1, 0, none⟩) (T ++ ([] : List (Bl × Nat))).length U, .int .i64 (en : Int)] _) from (by rw [List.append_nil] <;> rfl)), ⟨(show Tr.get _ 1 = some (AObj.cells ((T ++ ([] : List (Bl × Nat))).flatMap layT.g) _) from (by rw [List.append_nil] <;> rfl)), (by rw [List.append_nil]; exact hT0)⟩, hFT, hTT, hsh, (decide_eq_false (not_not_intro he)).symm, fun _ => by rw [eb]; exact hr⟩ ?_)
       refine Exists.intro ((v :: vs).map byV) (And.intro (zAp (l := v :: vs) h1s rfl) ?_)
       refine And.intro (zHq (o := v :: vs) (show vs.length + 1 ≤ _ by omega)) ?_
       refine ⟨(i + 1, v :: vs, q :: G, a'.toNat + (vs.length + 1)), ⟨h1, hAll, (by show List.length _ ≤ _; simp <;> omega), (by show List.length _ ≤ _; simp at hFl hl2 ⊢ <;> omega), (fun h => by cases h), (by show wrN a T ((Z.map pcZ).drop (i + 1)) _ _ _ = R; exact hR)⟩, (by show Z.length - (i + 1) < Z.length - i; omega), ?_⟩
       exact rcq [2, 3, 6, 7] ⟨⟨_, rfl, .ptr _ _ _ rfl⟩, ⟨_, rfl, .int _ _⟩, ⟨_, rfl, .sl _ _ _ _ _ rfl⟩, ⟨_, rfl, .sl _ _ _ _ _ rfl⟩, ⟨_, rfl, .sl _ _ _ _ _ rfl⟩, zAe rfl (by rw [wrapN (by omega) (by omega)]; omega), trivial⟩ ⟨⟨by decide, _, rfl, zAr 6 4 (by rfl) zEg _⟩, bpo (zAl _), bpo (zAm _), ⟨by decide, _, rfl, zBb zFw (zAj _)⟩, bpo (zAb (v :: vs)), trivial⟩ .nil
   ·have hk : ¬ k = -1 := by simpa using hk
    rw [decide_eq_false hk] at hR
    unfold wrN at hR
    cases s with
    | nil =>
     refine Exists.intro [] (And.intro (zAp (l := []) h1s rfl) ?_)
     refine ⟨(i + 1, [], [], en), ⟨h1, hFT, (by show List.length _ ≤ _; simp at hol ⊢ <;> omega), (by show List.length _ ≤ _; simp at hFl ⊢ <;> omega), hoF, (by show wrN a T ((Z.map pcZ).drop (i + 1)) _ _ _ = R; rw [List.append_nil] at hR; exact hR)⟩, (by show Z.length - (i + 1) < Z.length - i; omega), ?_⟩
     exact rcq [2, 3] ⟨⟨_, rfl, .ptr _ _ _ rfl⟩, ⟨_, rfl, .int _ _⟩, ⟨_, rfl, .sl _ _ _ _ _ rfl⟩, ⟨_, rfl, .sl _ _ _ _ _ rfl⟩, ⟨_, rfl, zAc 8 rfl⟩, zAe rfl (by rw [wrapN (by omega) (by omega)]; omega), trivial⟩ ⟨⟨by decide, _, rfl, zBj _ 1 1 (by rfl) _ _⟩, bpo (zAj T), bpo (zAl _), bpo (zAm _), trivial⟩ .nil
    | cons x s =>
     refine Exists.intro ((x :: s).map byV) (And.intro (zAp (l := x :: s) h1s rfl) ?_)
     refine And.intro (zHq (o := x :: s) (show s.length + 1 ≤ _ by have : s.length + 1 ≤ 65535 := hsl; omega)) ?_
     refine ⟨(i + 1, x :: s, [], en), ⟨h1, hFT, (by show List.length _ ≤ _; simp at hsl ⊢ <;> omega), (by show List.length _ ≤ _; simp at hFl ⊢ <;> omega), (fun h => by cases h), (by show wrN a T ((Z.map pcZ).drop (i + 1)) _ _ _ = R; exact hR)⟩, (by show Z.length - (i + 1) < Z.length - i; omega), ?_⟩
     exact rcq [2, 3, 5] ⟨⟨_, rfl, .ptr _ _ _ rfl⟩, ⟨_, rfl, .int _ _⟩, ⟨_, rfl, .sl _ _ _ _ _ rfl⟩, ⟨_, rfl, .sl _ _ _ _ _ rfl⟩, ⟨_, rfl, .sl _ _ _ _ _ rfl⟩, zAe rfl (by rw [wrapN (by omega) (by omega)]; omega), trivial⟩ ⟨⟨by decide, _, rfl, zBj _ 1 1 (by rfl) _ _⟩, bpo (zAj T), bpo (zAl _), bpo (zAm _), bpo (zAb (x :: s)), trivial⟩ .nil
  ·obtain ⟨e1, e2⟩ := hend (by have := of_decide_eq_false h1; omega)
   subst e1
   refine And.intro rfl (zAi (rcq [2, 3] (d := 7) (d2 := 4) (lv := [(0, .pointer (some ⟨0, 0, none⟩)), (1, .int .i64 a), (11, .slice (some ⟨2, 0, none⟩) Z.length Z.length), (12, .slice (some ⟨3, 0, none⟩) Z.length U), (14, .slice none 0 0), (15, .int .i64 Z.length)]) (bs := [(0, .cells [.slice (some ⟨1, 0, none⟩) T.length U, .int .i64 (en : Int)] 38), (1, .cells (T.flatMap layT.g) 107), (2, .cells (Z.map zi) 3), (3, .cells (Z.map zs) 9)]) (W := [0, 1]) (m := 4) (df := []) ⟨⟨_, rfl, .ptr _ _ _ rfl⟩, ⟨_, rfl, .int _ _⟩, ⟨_, rfl, .sl _ _ _ _ _ rfl⟩, ⟨_, rfl, .sl _ _ _ _ _ rfl⟩, ⟨_, rfl, zAc 8 rfl⟩, ⟨_, rfl, .int _ _⟩, trivial⟩ ⟨⟨by decide, _, rfl, zBj _ 1 1 (by rfl) _ _⟩, bpo (zAj T), bpo (zAl _), bpo (zAm _), trivial⟩ .nil) (fun f => ?_))
   exact hex [] ([] : List (Bl × Nat)) en f e2 hoF (by show List.length _ ≤ _; have := hl; simp at hol ⊢ <;> omega)
 | cons u us =>
  have hol : us.length + 1 ≤ 70000 * i := hol
  cases F with
  | nil =>
   have hFT : goodT (T ++ ([] : List (Bl × Nat))) := hg
   refine zAn tbWq [2, 3, 5, 6] 2 _ none mixed _ _ _ ?_
   refine ifK (fun h1 => ?_) (fun h1 => ?_)
   ·have h1 : i < Z.length := by have := of_decide_eq_true h1; omega
    obtain ⟨k, s, hp⟩ : ∃ k s, Z[i] = (k, s) := ⟨_, _, rfl⟩
    obtain ⟨hR, hsl, hat1, hat2⟩ := step h1 k s hp
    have hdom : inI (i : Int) Z.length = true := by simp [inI]; omega
    refine ifK (fun _ => ?_) (fun h2 => absurd (hdom.symm.trans h2) (by decide))
    refine Exists.intro (mkS s) (And.intro hat1 ?_)
    refine ifK (fun _ => ?_) (fun h2 => absurd (of_decide_eq_false h2) (not_not_intro (show s.length ≤ 9223372036854775807 by omega)))
    refine ifK (fun _ => ?_) (fun h2 => absurd (hdom.symm.trans h2) (by decide))
    refine Exists.intro k (And.intro hat2 ?_)
    refine ifK (fun hk => ?_) (fun hk => ?_)
    ·have hk : k = -1 := by simpa using hk
     rw [decide_eq_true hk] at hR
     refine ifK (fun _ => ?_) (fun h2 => absurd (hdom.symm.trans h2) (by decide))
     refine Exists.intro (mkS s) (And.intro hat1 ?_)
     obtain ⟨a', ha'⟩ : ∃ a', a' = IntKind.i64.wrap (a + (((us.length + 1) : Nat) : Int)) := ⟨_, rfl⟩
     unfold wrN at hR
     simp only [show (List.length (u :: us)) = (us.length + 1) from rfl, ← ha'] at hR
     have hsh : shortB (mkS s) = true := by unfold shortB; rw [zAs]; exact Nat.ble_eq_true_of_le (by omega)
     have hTT : (T ++ ([] : List (Bl × Nat))).length ≤ 1000000000 := by have := hFl; simp only [List.length_append] at this ⊢; simp at this ⊢ <;> omega
     by_cases he : pnE en a' (mkS s) ≠ 0
     ·rw [if_pos he] at hR
      refine Exists.intro (⟨0, some 1, en, T ++ ([] : List (Bl × Nat)), a', mkS s, true, [], []⟩ : RnX) (And.intro ⟨(by rw [ha'] <;> rfl), (show Tr.get _ 0 = some (AObj.cells [.slice (some ⟨1, 0, none⟩) (T ++ ([] : List (Bl × Nat))).length U, .int .i64 (en : Int)] _) from (by rw [List.append_nil] <;> rfl)), ⟨(show Tr.get _ 1 = some (AObj.cells ((T ++ ([] : List (Bl × Nat))).flatMap layT.g) _) from (by rw [List.append_nil] <;> rfl)), (by rw [List.append_nil]; exact hT0)⟩, hFT, hTT, hsh, (decide_eq_true he).symm, fun h => by cases h⟩ ?_)
      refine ifK (fun _ => ?_) (fun g => absurd (show pnE en a' (mkS s) = 0 by have g : (pnE en a' (mkS s) != 0) = false := g; simpa using g) he)
      refine And.intro rfl (zAi (rcq [] (d := 7) (d2 := 3) (lv := [(8, .slice none 0 0), (9, .int .i64 (pnE en a' (mkS s)))]) (bs := [(0, .cells [.slice (some ⟨1, 0, none⟩) T.length U, .int .i64 (en : Int)] 38), (1, .cells (T.flatMap layT.g) 107)]) (W := [0, 1]) (m := 2) (df := []) ⟨⟨_, rfl, zAc 8 rfl⟩, ⟨_, rfl, .int _ _⟩, trivial⟩ ⟨⟨by decide, _, rfl, zBj _ 1 1 (by rfl) _ _⟩, bpo (zAj T), trivial⟩ .nil) (fun f => ?_))
      exact hret _ ([] : List (Bl × Nat)) en f he hR.symm
     ·rw [if_neg he] at hR
      have he : pnE en a' (mkS s) = 0 := Decidable.not_not.1 he
      have eb : bs (mkS s) = s := by simp [bs, mkS]
      obtain ⟨⟨p1, p2⟩, p3, p4, p5⟩ := zCo he
      rw [eb] at p4 p5
      have hpos := ((zAv s).1 p4).1.pos
      obtain ⟨r, hr⟩ : ∃ r, packN (T ++ ([] : List (Bl × Nat))) a'.toNat s.length s 0 = r := ⟨_, rfl⟩
      have hne := zCj (T ++ ([] : List (Bl × Nat))) a'.toNat s.length s 0 hpos
      have hl1 := zAy (T ++ ([] : List (Bl × Nat))) a'.toNat s.length s 0
      have hl2 := zBd (T ++ ([] : List (Bl × Nat))) a'.toNat s.length s 0
      have hgd := zBo hFT a'.toNat s.length s 0
      rw [hr] at hne hl1 hl2 hgd hR
      obtain ⟨o, G⟩ := r
      cases o with
      | nil => exact absurd rfl hne
      | cons v vs =>
       have hvl : vs.length + 1 ≤ s.length + 2 := hl1
       have hl2 : G.length ≤ vs.length + 1 := hl2
       have hAll : goodT (T ++ (([] : List (Bl × Nat)) ++ G)) := by rw [← List.append_assoc]; exact hgd
       cases G with
       | nil =>
        refine Exists.intro (⟨0, some 1, en, T ++ ([] : List (Bl × Nat)), a', mkS s, false, v :: vs, []⟩ : RnX) (And.intro ⟨(by rw [ha'] <;> rfl), (show Tr.get _ 0 = some (AObj.cells [.slice (some ⟨1, 0, none⟩) (T ++ ([] : List (Bl × Nat))).length U, .int .i64 (en : Int)] _) from (by rw [List.append_nil] <;> rfl)), ⟨(show Tr.get _ 1 = some (AObj.cells ((T ++ ([] : List (Bl × Nat))).flatMap layT.g) _) from (by rw [List.append_nil] <;> rfl)), (by rw [List.append_nil]; exact hT0)⟩, hFT, hTT, hsh, (decide_eq_false (not_not_intro he)).symm, fun _ => by rw [eb]; exact hr⟩ ?_)
        refine Exists.intro ((v :: vs).map byV) (And.intro (zAp (l := v :: vs) h1s rfl) ?_)
        refine And.intro (zFc (us := us) (o := v :: vs) (by have := hl; omega) (show vs.length + 1 ≤ _ by omega) (Nat.succ_pos _)) ?_
        refine ⟨(i + 1, u :: (us ++ v :: vs), [], a'.toNat + (vs.length + 1)), ⟨h1, (by have := hAll; rw [List.append_nil] at this; exact this), (by show List.length _ ≤ _; simp <;> omega), (by show List.length _ ≤ _; simp at hFl hl2 ⊢ <;> omega), (fun h => by cases h), (by show wrN a T ((Z.map pcZ).drop (i + 1)) _ _ _ = R; rw [List.append_nil] at hR; exact hR)⟩, (by show Z.length - (i + 1) < Z.length - i; omega), ?_⟩
        exact rcq [2, 3, 7] ⟨⟨_, rfl, .ptr _ _ _ rfl⟩, ⟨_, rfl, .int _ _⟩, ⟨_, rfl, .sl _ _ _ _ _ rfl⟩, ⟨_, rfl, .sl _ _ _ _ _ rfl⟩, ⟨_, rfl, by show RV _ (.slice _ (us.length + 1 + (v :: vs).length) U) _; rw [zDl]; exact .sl _ _ _ _ _ rfl⟩, zAe rfl (by rw [wrapN (by omega) (by omega)]; omega), trivial⟩ ⟨⟨by decide, _, rfl, zAr 1 1 (by rfl) (by rw [List.append_nil]) _⟩, bpo (zAj T), bpo (zAl _), bpo (zAm _), ⟨by decide, _, rfl, zFd u us (v :: vs)⟩, trivial⟩ .nil
       | cons q G =>
        refine Exists.intro (⟨0, some 1, en, T ++ ([] : List (Bl × Nat)), a', mkS s, false, v :: vs, (q :: G)⟩ : RnX) (And.intro ⟨(by rw [ha'] <;> rfl), (show Tr.get _ 0 = some (AObj.cells [.slice (some ⟨1, 0, none⟩) (T ++ ([] : List (Bl × Nat))).length U, .int .i64 (en : Int)] _) from (by rw [List.append_nil] <;> rfl)), ⟨(show Tr.get _ 1 = some (AObj.cells ((T ++ ([] : List (Bl × Nat))).flatMap layT.g) _) from (by rw [List.append_nil] <;> rfl)), (by rw [List.append_nil]; exact hT0)⟩, hFT, hTT, hsh, (decide_eq_false (not_not_intro he)).symm, fun _ => by rw [eb]; exact hr⟩ ?_)
        refine Exists.intro ((v :: vs).map byV) (And.intro (zAp (l := v :: vs) h1s rfl) ?_)
        refine And.intro (zFc (us := us) (o := v :: vs) (by have := hl; omega) (show vs.length + 1 ≤ _ by omega) (Nat.succ_pos _)) ?_
        refine ⟨(i + 1, u :: (us ++ v :: vs), q :: G, a'.toNat + (vs.length + 1)), ⟨h1, hAll, (by show List.length _ ≤ _; simp <;> omega), (by show List.length _ ≤ _; simp at hFl hl2 ⊢ <;> omega), (fun h => by cases h), (by show wrN a T ((Z.map pcZ).drop (i + 1)) _ _ _ = R; exact hR)⟩, (by show Z.length - (i + 1) < Z.length - i; omega), ?_⟩
        exact rcq [2, 3, 7, 8] ⟨⟨_, rfl, .ptr _ _ _ rfl⟩, ⟨_, rfl, .int _ _⟩, ⟨_, rfl, .sl _ _ _ _ _ rfl⟩, ⟨_, rfl, .sl _ _ _ _ _ rfl⟩, ⟨_, rfl, by show RV _ (.slice _ (us.length + 1 + (v :: vs).length) U) _; rw [zDl]; exact .sl _ _ _ _ _ rfl⟩, zAe rfl (by rw [wrapN (by omega) (by omega)]; omega), trivial⟩ ⟨⟨by decide, _, rfl, zAr 7 4 (by rfl) zEg _⟩, bpo (zAl _), bpo (zAm _), ⟨by decide, _, rfl, zBb zFw (zAj _)⟩, ⟨by decide, _, rfl, zFd u us (v :: vs)⟩, trivial⟩ .nil
    ·have hk : ¬ k = -1 := by simpa using hk
     rw [decide_eq_false hk] at hR
     unfold wrN at hR
     cases s with
     | nil =>
      refine Exists.intro [] (And.intro (zAp (l := []) h1s rfl) ?_)
      refine ⟨(i + 1, u :: us, [], en), ⟨h1, hFT, (by show List.length _ ≤ _; simp at hol ⊢ <;> omega), (by show List.length _ ≤ _; simp at hFl ⊢ <;> omega), hoF, (by show wrN a T ((Z.map pcZ).drop (i + 1)) _ _ _ = R; rw [List.append_nil] at hR; exact hR)⟩, (by show Z.length - (i + 1) < Z.length - i; omega), ?_⟩
      exact rcq [2, 3, 4] ⟨⟨_, rfl, .ptr _ _ _ rfl⟩, ⟨_, rfl, .int _ _⟩, ⟨_, rfl, .sl _ _ _ _ _ rfl⟩, ⟨_, rfl, .sl _ _ _ _ _ rfl⟩, ⟨_, rfl, .sl _ _ _ _ _ rfl⟩, zAe rfl (by rw [wrapN (by omega) (by omega)]; omega), trivial⟩ ⟨⟨by decide, _, rfl, zBj _ 1 1 (by rfl) _ _⟩, bpo (zAj T), bpo (zAl _), bpo (zAm _), bpo (zAb (u :: us)), trivial⟩ .nil
     | cons x s =>
      refine Exists.intro ((x :: s).map byV) (And.intro (zAp (l := x :: s) h1s rfl) ?_)
      refine And.intro (zFc (us := us) (o := x :: s) (by have := hl; omega) (show s.length + 1 ≤ _ by have : s.length + 1 ≤ 65535 := hsl; omega) (Nat.succ_pos _)) ?_
      refine ⟨(i + 1, u :: (us ++ x :: s), [], en), ⟨h1, hFT, (by show List.length _ ≤ _; simp at hsl ⊢ <;> omega), (by show List.length _ ≤ _; simp at hFl ⊢ <;> omega), (fun h => by cases h), (by show wrN a T ((Z.map pcZ).drop (i + 1)) _ _ _ = R; exact hR)⟩, (by show Z.length - (i + 1) < Z.length - i; omega), ?_⟩
      exact rcq [2, 3, 6] ⟨⟨_, rfl, .ptr _ _ _ rfl⟩, ⟨_, rfl, .int _ _⟩, ⟨_, rfl, .sl _ _ _ _ _ rfl⟩, ⟨_, rfl, .sl _ _ _ _ _ rfl⟩, ⟨_, rfl, by show RV _ (.slice _ (us.length + 1 + (x :: s).length) U) _; rw [zDl]; exact .sl _ _ _ _ _ rfl⟩, zAe rfl (by rw [wrapN (by omega) (by omega)]; omega), trivial⟩ ⟨⟨by decide, _, rfl, zBj _ 1 1 (by rfl) _ _⟩, bpo (zAj T), bpo (zAl _), bpo (zAm _), ⟨by decide, _, rfl, zFd u us (x :: s)⟩, trivial⟩ .nil
   ·obtain ⟨e1, e2⟩ := hend (by have := of_decide_eq_false h1; omega)
    subst e1
    refine And.intro rfl (zAi (rcq [2, 3, 4] (d := 7) (d2 := 4) (lv := [(0, .pointer (some ⟨0, 0, none⟩)), (1, .int .i64 a), (11, .slice (some ⟨2, 0, none⟩) Z.length Z.length), (12, .slice (some ⟨3, 0, none⟩) Z.length U), (14, .slice (some ⟨4, 0, none⟩) (us.length + 1) U), (15, .int .i64 Z.length)]) (bs := [(0, .cells [.slice (some ⟨1, 0, none⟩) T.length U, .int .i64 (en : Int)] 38), (1, .cells (T.flatMap layT.g) 107), (2, .cells (Z.map zi) 3), (3, .cells (Z.map zs) 9), (4, .cells ((u :: us).map byV) 5)]) (W := [0, 1]) (m := 5) (df := []) ⟨⟨_, rfl, .ptr _ _ _ rfl⟩, ⟨_, rfl, .int _ _⟩, ⟨_, rfl, .sl _ _ _ _ _ rfl⟩, ⟨_, rfl, .sl _ _ _ _ _ rfl⟩, ⟨_, rfl, .sl _ _ _ _ _ rfl⟩, ⟨_, rfl, .int _ _⟩, trivial⟩ ⟨⟨by decide, _, rfl, zBj _ 1 1 (by rfl) _ _⟩, bpo (zAj T), bpo (zAl _), bpo (zAm _), bpo (zAb (u :: us)), trivial⟩ .nil) (fun f => ?_))
    exact hex (u :: us) ([] : List (Bl × Nat)) en f e2 hoF (by show List.length _ ≤ _; have := hl; simp at hol ⊢ <;> omega)
  | cons p F =>
   have hFT : goodT (T ++ (p :: F)) := hg
   refine zAn tbWq [2, 3, 6, 7] 2 _ none mixed _ _ _ ?_
   refine ifK (fun h1 => ?_) (fun h1 => ?_)
   ·have h1 : i < Z.length := by have := of_decide_eq_true h1; omega
    obtain ⟨k, s, hp⟩ : ∃ k s, Z[i] = (k, s) := ⟨_, _, rfl⟩
    obtain ⟨hR, hsl, hat1, hat2⟩ := step h1 k s hp
    have hdom : inI (i : Int) Z.length = true := by simp [inI]; omega
    refine ifK (fun _ => ?_) (fun h2 => absurd (hdom.symm.trans h2) (by decide))
    refine Exists.intro (mkS s) (And.intro hat1 ?_)
    refine ifK (fun _ => ?_) (fun h2 => absurd (of_decide_eq_false h2) (not_not_intro (show s.length ≤ 9223372036854775807 by omega)))
    refine ifK (fun _ => ?_) (fun h2 => absurd (hdom.symm.trans h2) (by decide))
    refine Exists.intro k (And.intro hat2 ?_)
    refine ifK (fun hk => ?_) (fun hk => ?_)
    ·have hk : k = -1 := by simpa using hk
     rw [decide_eq_true hk] at hR
     refine ifK (fun _ => ?_) (fun h2 => absurd (hdom.symm.trans h2) (by decide))
     refine Exists.intro (mkS s) (And.intro hat1 ?_)
     obtain ⟨a', ha'⟩ : ∃ a', a' = IntKind.i64.wrap (a + (((us.length + 1) : Nat) : Int)) := ⟨_, rfl⟩
     unfold wrN at hR
     simp only [show (List.length (u :: us)) = (us.length + 1) from rfl, ← ha'] at hR
     have hsh : shortB (mkS s) = true := by unfold shortB; rw [zAs]; exact Nat.ble_eq_true_of_le (by omega)
     have hTT : (T ++ (p :: F)).length ≤ 1000000000 := by have := hFl; simp only [List.length_append] at this ⊢; simp at this ⊢ <;> omega
     by_cases he : pnE en a' (mkS s) ≠ 0
     ·rw [if_pos he] at hR
      refine Exists.intro (⟨0, some 4, en, T ++ (p :: F), a', mkS s, true, [], []⟩ : RnX) (And.intro ⟨(by rw [ha'] <;> rfl), (show Tr.get _ 0 = some (AObj.cells [.slice (some ⟨4, 0, none⟩) (T ++ (p :: F)).length U, .int .i64 (en : Int)] _) from (by rfl)), ⟨(show Tr.get _ 4 = some (AObj.cells ((T ++ (p :: F)).flatMap layT.g) _) from (by rfl)), (by simp)⟩, hFT, hTT, hsh, (decide_eq_true he).symm, fun h => by cases h⟩ ?_)
      refine ifK (fun _ => ?_) (fun g => absurd (show pnE en a' (mkS s) = 0 by have g : (pnE en a' (mkS s) != 0) = false := g; simpa using g) he)
      refine And.intro rfl (zAi (rcq [4] (d := 7) (d2 := 3) (lv := [(8, .slice none 0 0), (9, .int .i64 (pnE en a' (mkS s)))]) (bs := [(0, .cells [.slice (some ⟨2, 0, none⟩) (T ++ p :: F).length U, .int .i64 (en : Int)] 38), (2, .cells ((T ++ p :: F).flatMap layT.g) 107)]) (W := [0, 1]) (m := 3) (df := []) ⟨⟨_, rfl, zAc 8 rfl⟩, ⟨_, rfl, .int _ _⟩, trivial⟩ ⟨⟨by decide, _, rfl, zBj _ 4 2 (by rfl) _ _⟩, bpo (zAj (T ++ p :: F)), trivial⟩ .nil) (fun f => ?_))
      exact hret _ (p :: F) en f he hR.symm
     ·rw [if_neg he] at hR
      have he : pnE en a' (mkS s) = 0 := Decidable.not_not.1 he
      have eb : bs (mkS s) = s := by simp [bs, mkS]
      obtain ⟨⟨p1, p2⟩, p3, p4, p5⟩ := zCo he
      rw [eb] at p4 p5
      have hpos := ((zAv s).1 p4).1.pos
      obtain ⟨r, hr⟩ : ∃ r, packN (T ++ (p :: F)) a'.toNat s.length s 0 = r := ⟨_, rfl⟩
      have hne := zCj (T ++ (p :: F)) a'.toNat s.length s 0 hpos
      have hl1 := zAy (T ++ (p :: F)) a'.toNat s.length s 0
      have hl2 := zBd (T ++ (p :: F)) a'.toNat s.length s 0
      have hgd := zBo hFT a'.toNat s.length s 0
      rw [hr] at hne hl1 hl2 hgd hR
      obtain ⟨o, G⟩ := r
      cases o with
      | nil => exact absurd rfl hne
      | cons v vs =>
       have hvl : vs.length + 1 ≤ s.length + 2 := hl1
       have hl2 : G.length ≤ vs.length + 1 := hl2
       have hAll : goodT (T ++ ((p :: F) ++ G)) := by rw [← List.append_assoc]; exact hgd
       cases G with
       | nil =>
        refine Exists.intro (⟨0, some 4, en, T ++ (p :: F), a', mkS s, false, v :: vs, []⟩ : RnX) (And.intro ⟨(by rw [ha'] <;> rfl), (show Tr.get _ 0 = some (AObj.cells [.slice (some ⟨4, 0, none⟩) (T ++ (p :: F)).length U, .int .i64 (en : Int)] _) from (by rfl)), ⟨(show Tr.get _ 4 = some (AObj.cells ((T ++ (p :: F)).flatMap layT.g) _) from (by rfl)), (by simp)⟩, hFT, hTT, hsh, (decide_eq_false (not_not_intro he)).symm, fun _ => by rw [eb]; exact hr⟩ ?_)
        refine Exists.intro ((v :: vs).map byV) (And.intro (zAp (l := v :: vs) h1s rfl) ?_)
        refine And.intro (zFc (us := us) (o := v :: vs) (by have := hl; omega) (show vs.length + 1 ≤ _ by omega) (Nat.succ_pos _)) ?_
        refine ⟨(i + 1, u :: (us ++ v :: vs), p :: F, a'.toNat + (vs.length + 1)), ⟨h1, (by have := hAll; rw [List.append_nil] at this; exact this), (by show List.length _ ≤ _; simp <;> omega), (by show List.length _ ≤ _; simp at hFl hl2 ⊢ <;> omega), (fun h => by cases h), (by show wrN a T ((Z.map pcZ).drop (i + 1)) _ _ _ = R; rw [List.append_nil] at hR; exact hR)⟩, (by show Z.length - (i + 1) < Z.length - i; omega), ?_⟩
        exact rcq [2, 3, 4, 8] ⟨⟨_, rfl, .ptr _ _ _ rfl⟩, ⟨_, rfl, .int _ _⟩, ⟨_, rfl, .sl _ _ _ _ _ rfl⟩, ⟨_, rfl, .sl _ _ _ _ _ rfl⟩, ⟨_, rfl, by show RV _ (.slice _ (us.length + 1 + (v :: vs).length) U) _; rw [zDl]; exact .sl _ _ _ _ _ rfl⟩, zAe rfl (by rw [wrapN (by omega) (by omega)]; omega), trivial⟩ ⟨⟨by decide, _, rfl, zAr 4 4 (by rfl) rfl _⟩, bpo (zAl _), bpo (zAm _), bpo (zAj (T ++ p :: F)), ⟨by decide, _, rfl, zFd u us (v :: vs)⟩, trivial⟩ .nil
       | cons q G =>
        refine Exists.intro (⟨0, some 4, en, T ++ (p :: F), a', mkS s, false, v :: vs, (q :: G)⟩ : RnX) (And.intro ⟨(by rw [ha'] <;> rfl), (show Tr.get _ 0 = some (AObj.cells [.slice (some ⟨4, 0, none⟩) (T ++ (p :: F)).length U, .int .i64 (en : Int)] _) from (by rfl)), ⟨(show Tr.get _ 4 = some (AObj.cells ((T ++ (p :: F)).flatMap layT.g) _) from (by rfl)), (by simp)⟩, hFT, hTT, hsh, (decide_eq_false (not_not_intro he)).symm, fun _ => by rw [eb]; exact hr⟩ ?_)
        refine Exists.intro ((v :: vs).map byV) (And.intro (zAp (l := v :: vs) h1s rfl) ?_)
        refine And.intro (zFc (us := us) (o := v :: vs) (by have := hl; omega) (show vs.length + 1 ≤ _ by omega) (Nat.succ_pos _)) ?_
        refine ⟨(i + 1, u :: (us ++ v :: vs), p :: (F ++ q :: G), a'.toNat + (vs.length + 1)), ⟨h1, hAll, (by show List.length _ ≤ _; simp <;> omega), (by show List.length _ ≤ _; simp at hFl hl2 ⊢ <;> omega), (fun h => by cases h), (by show wrN a T ((Z.map pcZ).drop (i + 1)) _ _ _ = R; exact hR)⟩, (by show Z.length - (i + 1) < Z.length - i; omega), ?_⟩
        exact rcq [2, 3, 8, 9] ⟨⟨_, rfl, .ptr _ _ _ rfl⟩, ⟨_, rfl, .int _ _⟩, ⟨_, rfl, .sl _ _ _ _ _ rfl⟩, ⟨_, rfl, .sl _ _ _ _ _ rfl⟩, ⟨_, rfl, by show RV _ (.slice _ (us.length + 1 + (v :: vs).length) U) _; rw [zDl]; exact .sl _ _ _ _ _ rfl⟩, zAe rfl (by rw [wrapN (by omega) (by omega)]; omega), trivial⟩ ⟨⟨by decide, _, rfl, zAr 8 4 (by rfl) zEg _⟩, bpo (zAl _), bpo (zAm _), ⟨by decide, _, rfl, zBb zFw (zAj _)⟩, ⟨by decide, _, rfl, zFd u us (v :: vs)⟩, trivial⟩ .nil
    ·have hk : ¬ k = -1 := by simpa using hk
     rw [decide_eq_false hk] at hR
     unfold wrN at hR
     cases s with
     | nil =>
      refine Exists.intro [] (And.intro (zAp (l := []) h1s rfl) ?_)
      refine ⟨(i + 1, u :: us, p :: F, en), ⟨h1, hFT, (by show List.length _ ≤ _; simp at hol ⊢ <;> omega), (by show List.length _ ≤ _; simp at hFl ⊢ <;> omega), hoF, (by show wrN a T ((Z.map pcZ).drop (i + 1)) _ _ _ = R; rw [List.append_nil] at hR; exact hR)⟩, (by show Z.length - (i + 1) < Z.length - i; omega), ?_⟩
      exact rcq [2, 3, 4, 5] ⟨⟨_, rfl, .ptr _ _ _ rfl⟩, ⟨_, rfl, .int _ _⟩, ⟨_, rfl, .sl _ _ _ _ _ rfl⟩, ⟨_, rfl, .sl _ _ _ _ _ rfl⟩, ⟨_, rfl, .sl _ _ _ _ _ rfl⟩, zAe rfl (by rw [wrapN (by omega) (by omega)]; omega), trivial⟩ ⟨⟨by decide, _, rfl, zBj _ 4 4 (by rfl) _ _⟩, bpo (zAl _), bpo (zAm _), bpo (zAj (T ++ p :: F)), bpo (zAb (u :: us)), trivial⟩ .nil
     | cons x s =>
      refine Exists.intro ((x :: s).map byV) (And.intro (zAp (l := x :: s) h1s rfl) ?_)
      refine And.intro (zFc (us := us) (o := x :: s) (by have := hl; omega) (show s.length + 1 ≤ _ by have : s.length + 1 ≤ 65535 := hsl; omega) (Nat.succ_pos _)) ?_
      refine ⟨(i + 1, u :: (us ++ x :: s), p :: F, en), ⟨h1, hFT, (by show List.length _ ≤ _; simp at hsl ⊢ <;> omega), (by show List.length _ ≤ _; simp at hFl ⊢ <;> omega), (fun h => by cases h), (by show wrN a T ((Z.map pcZ).drop (i + 1)) _ _ _ = R; exact hR)⟩, (by show Z.length - (i + 1) < Z.length - i; omega), ?_⟩
      exact rcq [2, 3, 4, 7] ⟨⟨_, rfl, .ptr _ _ _ rfl⟩, ⟨_, rfl, .int _ _⟩, ⟨_, rfl, .sl _ _ _ _ _ rfl⟩, ⟨_, rfl, .sl _ _ _ _ _ rfl⟩, ⟨_, rfl, by show RV _ (.slice _ (us.length + 1 + (x :: s).length) U) _; rw [zDl]; exact .sl _ _ _ _ _ rfl⟩, zAe rfl (by rw [wrapN (by omega) (by omega)]; omega), trivial⟩ ⟨⟨by decide, _, rfl, zBj _ 4 4 (by rfl) _ _⟩, bpo (zAl _), bpo (zAm _), bpo (zAj (T ++ p :: F)), ⟨by decide, _, rfl, zFd u us (x :: s)⟩, trivial⟩ .nil
   ·obtain ⟨e1, e2⟩ := hend (by have := of_decide_eq_false h1; omega)
    subst e1
    refine And.intro rfl (zAi (rcq [2, 3, 4, 5] (d := 7) (d2 := 4) (lv := [(0, .pointer (some ⟨0, 0, none⟩)), (1, .int .i64 a), (11, .slice (some ⟨2, 0, none⟩) Z.length Z.length), (12, .slice (some ⟨3, 0, none⟩) Z.length U), (14, .slice (some ⟨5, 0, none⟩) (us.length + 1) U), (15, .int .i64 Z.length)]) (bs := [(0, .cells [.slice (some ⟨4, 0, none⟩) (T ++ p :: F).length U, .int .i64 (en : Int)] 38), (2, .cells (Z.map zi) 3), (3, .cells (Z.map zs) 9), (4, .cells ((T ++ p :: F).flatMap layT.g) 107), (5, .cells ((u :: us).map byV) 5)]) (W := [0, 1]) (m := 6) (df := []) ⟨⟨_, rfl, .ptr _ _ _ rfl⟩, ⟨_, rfl, .int _ _⟩, ⟨_, rfl, .sl _ _ _ _ _ rfl⟩, ⟨_, rfl, .sl _ _ _ _ _ rfl⟩, ⟨_, rfl, .sl _ _ _ _ _ rfl⟩, ⟨_, rfl, .int _ _⟩, trivial⟩ ⟨⟨by decide, _, rfl, zBj _ 4 4 (by rfl) _ _⟩, bpo (zAl _), bpo (zAm _), bpo (zAj (T ++ p :: F)), bpo (zAb (u :: us)), trivial⟩ .nil) (fun f => ?_))
    exact hex (u :: us) (p :: F) en f e2 hoF (by show List.length _ ≤ _; have := hl; simp at hol ⊢ <;> omega)
def rwnE (a : Int) (Z : List (Int × Bs)) (i : Nat) (out : Bl) (F : List (Bl × Nat)) (en : Nat) (f : Nat → Option Value) : Fs := match out, F with
 | [], _ => ⟨slots 7 [(0, .pointer (some ⟨0, 0, none⟩)), (1, .int .i64 a), (11, .slice (some ⟨1, 0, none⟩) Z.length Z.length), (12, .slice (some ⟨2, 0, none⟩) Z.length U), (14, .slice none 0 0), (15, .int .i64 (i : Int))] f, heap 4 [(0, .cells [.slice none 0 0, .int .i64 (en : Int)] 38), (1, .cells (Z.map zi) 3), (2, .cells (Z.map zs) 9)], 3, [0], []⟩
 | u :: us, [] => ⟨slots 7 [(0, .pointer (some ⟨0, 0, none⟩)), (1, .int .i64 a), (11, .slice (some ⟨1, 0, none⟩) Z.length Z.length), (12, .slice (some ⟨2, 0, none⟩) Z.length U), (14, .slice (some ⟨3, 0, none⟩) (us.length + 1) U), (15, .int .i64 (i : Int))] f, heap 4 [(0, .cells [.slice none 0 0, .int .i64 (en : Int)] 38), (1, .cells (Z.map zi) 3), (2, .cells (Z.map zs) 9), (3, .cells ((u :: us).map byV) 5)], 4, [0], []⟩
 | u :: us, p :: F => ⟨slots 7 [(0, .pointer (some ⟨0, 0, none⟩)), (1, .int .i64 a), (11, .slice (some ⟨1, 0, none⟩) Z.length Z.length), (12, .slice (some ⟨2, 0, none⟩) Z.length U), (14, .slice (some ⟨4, 0, none⟩) (us.length + 1) U), (15, .int .i64 (i : Int))] f, heap 4 [(0, .cells [.slice (some ⟨3, 0, none⟩) (([] : List (Bl × Nat)) ++ p :: F).length U, .int .i64 (en : Int)] 38), (1, .cells (Z.map zi) 3), (2, .cells (Z.map zs) 9), (3, .cells ((([] : List (Bl × Nat)) ++ p :: F).flatMap layT.g) 107), (4, .cells ((u :: us).map byV) 5)], 5, [0], []⟩
def rwnS (a : Int) (Z : List (Int × Bs)) (x : Nat × Bl × List (Bl × Nat) × Nat) (f : Nat → Option Value) : Fs := rwnE a Z x.1 x.2.1 x.2.2.1 x.2.2.2 f
def rwnR (_ : Int) (F : List (Bl × Nat)) (en : Nat) (e : Int) (f : Nat → Option Value) : Fs := match F with
 | [] => ⟨slots 7 [(8, .slice none 0 0), (9, .int .i64 e)] f, heap 3 [(0, .cells [.slice none 0 0, .int .i64 (en : Int)] 38)], 1, [0], []⟩
 | p :: F => ⟨slots 7 [(8, .slice none 0 0), (9, .int .i64 e)] f, heap 3 [(0, .cells [.slice (some ⟨1, 0, none⟩) (([] : List (Bl × Nat)) ++ p :: F).length U, .int .i64 (en : Int)] 38), (1, .cells ((([] : List (Bl × Nat)) ++ p :: F).flatMap layT.g) 107)], 2, [0], []⟩
theorem rwn_loop (a : Int) (Z : List (Int × Bs)) (en0 : Nat) (hps : ∀ p ∈ Z, p.2.length ≤ 65535) (hl : Z.length ≤ 1000) (R : Int × Bl × List (Bl × Nat) × Nat) (hR : wrN a ([] : List (Bl × Nat)) (Z.map pcZ) [] [] en0 = R) {s0 : Fs} {K : Ex → Fs → Prop}
  (h0 : ∃ f, RcM Try.prog 0 1 (4 + (Try.f50.ntmps - 4)) none s0 (rwnS a Z (0, [], [], en0) f))
  (hex : ∀ out F en f, R = (0, out, F, en) → (out = [] → F = []) → out.length ≤ 100000000 → K (.exit 0) (rwnE a Z Z.length out F en f))
  (hret : ∀ (e : Int) (F : List (Bl × Nat)) (en : Nat) f, e ≠ 0 → R = (e, [], F, en) → K .ret (rwnR a F en e f)) :
  LW Try.prog 0 1 (4 + (Try.f50.ntmps - 4)) none (loopAt Try.f50 0) s0 K := by
 have h1s : (Try.prog.types[5]).size = 1 := by kernel_rfl
 have h3s : (Try.prog.types[3]).size = 1 := by kernel_rfl
 have h9s : (Try.prog.types[9]).size = 1 := by kernel_rfl
 refine zBs (rwnS a Z ) (fun x => Z.length - x.1) (fun x => x.1 ≤ Z.length ∧ goodT (([] : List (Bl × Nat)) ++ x.2.2.1) ∧ x.2.1.length ≤ 70000 * x.1 ∧ x.2.2.1.length ≤ 257 * x.1 ∧ (x.2.1 = [] → x.2.2.1 = []) ∧ wrN a ([] : List (Bl × Nat)) ((Z.map pcZ).drop x.1) x.2.1 x.2.2.1 x.2.2.2 = R) (0, [], [], en0) ⟨Nat.zero_le _, ⟨List.nodup_nil, fun p hp => by cases hp⟩, Nat.le_refl _, Nat.le_refl _, fun _ => rfl, by rw [List.drop_zero]; exact hR⟩ h0 ?_
 rintro ⟨i, out, F, en⟩ f ⟨hi, hg, hol, hFl, hoF, hR⟩
 have hi : i ≤ Z.length := hi
 have hg : goodT (([] : List (Bl × Nat)) ++ F) := hg
 have hol : out.length ≤ 70000 * i := hol
 have hFl : F.length ≤ 257 * i := hFl
 have hoF : out = [] → F = [] := hoF
 have hR : wrN a ([] : List (Bl × Nat)) ((Z.map pcZ).drop i) out F en = R := hR
 have hend : ¬ i < Z.length → i = Z.length ∧ R = (0, out, F, en) := fun h => by
  have e : i = Z.length := by omega
  rw [e, List.drop_of_length_le (by simp)] at hR
  exact ⟨e, hR.symm⟩
 have step : ∀ (h : i < Z.length) (k : Int) (s : Bs), Z[i] = (k, s) → wrN a ([] : List (Bl × Nat)) ((s, decide (k = -1)) :: (Z.map pcZ).drop (i + 1)) out F en = R ∧ s.length ≤ 65535 ∧ (Z.map zs)[0 + ((i : Int)).toNat * (Try.prog.types[9]).size]? = some (.string (mkS s)) ∧ (Z.map zi)[0 + ((i : Int)).toNat * (Try.prog.types[3]).size]? = some (.int .i64 k) := fun h k s e => by
  have hm : i < (Z.map pcZ).length := by rw [List.length_map]; exact h
  refine ⟨?_, ?_, ?_, ?_⟩
  ·rw [← hR, List.drop_eq_getElem_cons hm, List.getElem_map, e]; rfl
  ·have := hps _ (List.getElem_mem h)
   rw [e] at this; exact this
  ·rw [h9s, Int.toNat_natCast, Nat.zero_add, Nat.mul_one]; simp [h, e, zs, str, mkS]
  ·rw [h3s, Int.toNat_natCast, Nat.zero_add, Nat.mul_one]; simp [h, e, zi, intV]
 cases out with
 | nil =>
  have hF0 : F = [] := hoF rfl
  subst hF0
  have hFT : goodT (([] : List (Bl × Nat)) ++ ([] : List (Bl × Nat))) := hg
  refine zAn tbWq [1, 2, 3, 4] 1 _ none mixed _ _ _ ?_
  refine ifK (fun h1 => ?_) (fun h1 => ?_)
  ·have h1 : i < Z.length := by have := of_decide_eq_true h1; omega
   obtain ⟨k, s, hp⟩ : ∃ k s, Z[i] = (k, s) := ⟨_, _, rfl⟩
   obtain ⟨hR, hsl, hat1, hat2⟩ := step h1 k s hp
   have hdom : inI (i : Int) Z.length = true := by simp [inI]; omega
   refine ifK (fun _ => ?_) (fun h2 => absurd (hdom.symm.trans h2) (by decide))
   refine Exists.intro (mkS s) (And.intro hat1 ?_)
   refine ifK (fun _ => ?_) (fun h2 => absurd (of_decide_eq_false h2) (not_not_intro (show s.length ≤ 9223372036854775807 by omega)))
   refine ifK (fun _ => ?_) (fun h2 => absurd (hdom.symm.trans h2) (by decide))
   refine Exists.intro k (And.intro hat2 ?_)
   refine ifK (fun hk => ?_) (fun hk => ?_)
   ·have hk : k = -1 := by simpa using hk
    rw [decide_eq_true hk] at hR
    refine ifK (fun _ => ?_) (fun h2 => absurd (hdom.symm.trans h2) (by decide))
    refine Exists.intro (mkS s) (And.intro hat1 ?_)
    obtain ⟨a', ha'⟩ : ∃ a', a' = IntKind.i64.wrap (a + ((0 : Nat) : Int)) := ⟨_, rfl⟩
    unfold wrN at hR
    simp only [show (List.length ([] : Bl)) = 0 from rfl, ← ha'] at hR
    have hsh : shortB (mkS s) = true := by unfold shortB; rw [zAs]; exact Nat.ble_eq_true_of_le (by omega)
    have hTT : (([] : List (Bl × Nat)) ++ ([] : List (Bl × Nat))).length ≤ 1000000000 := by have := hFl; simp only [List.length_append] at this ⊢; simp at this ⊢ <;> omega
    by_cases he : pnE en a' (mkS s) ≠ 0
    ·rw [if_pos he] at hR
     refine Exists.intro (⟨0, none, en, ([] : List (Bl × Nat)) ++ ([] : List (Bl × Nat)), a', mkS s, true, [], []⟩ : RnX) (And.intro ⟨(by rw [ha'] <;> rfl), rfl, rfl, hFT, hTT, hsh, (decide_eq_true he).symm, fun h => by cases h⟩ ?_)
     refine ifK (fun _ => ?_) (fun g => absurd (show pnE en a' (mkS s) = 0 by have g : (pnE en a' (mkS s) != 0) = false := g; simpa using g) he)
     refine And.intro rfl (zAi (rcq [] (d := 7) (d2 := 3) (lv := [(8, .slice none 0 0), (9, .int .i64 (pnE en a' (mkS s)))]) (bs := [(0, .cells [.slice none 0 0, .int .i64 (en : Int)] 38)]) (W := [0]) (m := 1) (df := []) ⟨⟨_, rfl, zAc 8 rfl⟩, ⟨_, rfl, .int _ _⟩, trivial⟩ ⟨bpo rfl, trivial⟩ .nil) (fun f => ?_))
     exact hret _ ([] : List (Bl × Nat)) en f he hR.symm
    ·rw [if_neg he] at hR
     have he : pnE en a' (mkS s) = 0 := Decidable.not_not.1 he
     have eb : bs (mkS s) = s := by simp [bs, mkS]
     obtain ⟨⟨p1, p2⟩, p3, p4, p5⟩ := zCo he
     rw [eb] at p4 p5
     have hpos := ((zAv s).1 p4).1.pos
     obtain ⟨r, hr⟩ : ∃ r, packN (([] : List (Bl × Nat)) ++ ([] : List (Bl × Nat))) a'.toNat s.length s 0 = r := ⟨_, rfl⟩
     have hne := zCj (([] : List (Bl × Nat)) ++ ([] : List (Bl × Nat))) a'.toNat s.length s 0 hpos
     have hl1 := zAy (([] : List (Bl × Nat)) ++ ([] : List (Bl × Nat))) a'.toNat s.length s 0
     have hl2 := zBd (([] : List (Bl × Nat)) ++ ([] : List (Bl × Nat))) a'.toNat s.length s 0
     have hgd := zBo hFT a'.toNat s.length s 0
     rw [hr] at hne hl1 hl2 hgd hR
     obtain ⟨o, G⟩ := r
     cases o with
     | nil => exact absurd rfl hne
     | cons v vs =>
      have hvl : vs.length + 1 ≤ s.length + 2 := hl1
      have hl2 : G.length ≤ vs.length + 1 := hl2
      have hAll : goodT (([] : List (Bl × Nat)) ++ (([] : List (Bl × Nat)) ++ G)) := by rw [← List.append_assoc]; exact hgd
      cases G with
      | nil =>
       refine Exists.intro (⟨0, none, en, ([] : List (Bl × Nat)) ++ ([] : List (Bl × Nat)), a', mkS s, false, v :: vs, []⟩ : RnX) (And.intro ⟨(by rw [ha'] <;> rfl), rfl, rfl, hFT, hTT, hsh, (decide_eq_false (not_not_intro he)).symm, fun _ => by rw [eb]; exact hr⟩ ?_)
       refine Exists.intro ((v :: vs).map byV) (And.intro (zAp (l := v :: vs) h1s rfl) ?_)
       refine And.intro (zHq (o := v :: vs) (show vs.length + 1 ≤ _ by omega)) ?_
       refine ⟨(i + 1, v :: vs, [], a'.toNat + (vs.length + 1)), ⟨h1, (by have := hAll; rw [List.append_nil] at this; exact this), (by show List.length _ ≤ _; simp <;> omega), (by show List.length _ ≤ _; simp at hFl hl2 ⊢ <;> omega), (fun h => by cases h), (by show wrN a ([] : List (Bl × Nat)) ((Z.map pcZ).drop (i + 1)) _ _ _ = R; rw [List.append_nil] at hR; exact hR)⟩, (by show Z.length - (i + 1) < Z.length - i; omega), ?_⟩
       exact rcq [1, 2, 5] ⟨⟨_, rfl, .ptr _ _ _ rfl⟩, ⟨_, rfl, .int _ _⟩, ⟨_, rfl, .sl _ _ _ _ _ rfl⟩, ⟨_, rfl, .sl _ _ _ _ _ rfl⟩, ⟨_, rfl, .sl _ _ _ _ _ rfl⟩, zAe rfl (by rw [wrapN (by omega) (by omega)]; omega), trivial⟩ ⟨bpo rfl, bpo (zAl _), bpo (zAm _), bpo (zAb (v :: vs)), trivial⟩ .nil
      | cons q G =>
       refine Exists.intro (⟨0, none, en, ([] : List (Bl × Nat)) ++ ([] : List (Bl × Nat)), a', mkS s, false, v :: vs, (q :: G)⟩ : RnX) (And.intro ⟨(by rw [ha'] <;> rfl), rfl, rfl, hFT, hTT, hsh, (decide_eq_false (not_not_intro he)).symm, fun _ => by rw [eb]; exact hr⟩ ?_)
       refine Exists.intro ((v :: vs).map byV) (And.intro (zAp (l := v :: vs) h1s rfl) ?_)
       refine And.intro (zHq (o := v :: vs) (show vs.length + 1 ≤ _ by omega)) ?_
       refine ⟨(i + 1, v :: vs, q :: G, a'.toNat + (vs.length + 1)), ⟨h1, hAll, (by show List.length _ ≤ _; simp <;> omega), (by show List.length _ ≤ _; simp at hFl hl2 ⊢ <;> omega), (fun h => by cases h), (by show wrN a ([] : List (Bl × Nat)) ((Z.map pcZ).drop (i + 1)) _ _ _ = R; exact hR)⟩, (by show Z.length - (i + 1) < Z.length - i; omega), ?_⟩
       exact rcq [1, 2, 5, 6] ⟨⟨_, rfl, .ptr _ _ _ rfl⟩, ⟨_, rfl, .int _ _⟩, ⟨_, rfl, .sl _ _ _ _ _ rfl⟩, ⟨_, rfl, .sl _ _ _ _ _ rfl⟩, ⟨_, rfl, .sl _ _ _ _ _ rfl⟩, zAe rfl (by rw [wrapN (by omega) (by omega)]; omega), trivial⟩ ⟨⟨by decide, _, rfl, zAr 5 3 (by rfl) zEg _⟩, bpo (zAl _), bpo (zAm _), ⟨by decide, _, rfl, zBb zFw (zAj _)⟩, bpo (zAb (v :: vs)), trivial⟩ .nil
   ·have hk : ¬ k = -1 := by simpa using hk
    rw [decide_eq_false hk] at hR
    unfold wrN at hR
    cases s with
    | nil =>
     refine Exists.intro [] (And.intro (zAp (l := []) h1s rfl) ?_)
     refine ⟨(i + 1, [], [], en), ⟨h1, hFT, (by show List.length _ ≤ _; simp at hol ⊢ <;> omega), (by show List.length _ ≤ _; simp at hFl ⊢ <;> omega), hoF, (by show wrN a ([] : List (Bl × Nat)) ((Z.map pcZ).drop (i + 1)) _ _ _ = R; rw [List.append_nil] at hR; exact hR)⟩, (by show Z.length - (i + 1) < Z.length - i; omega), ?_⟩
     exact rcq [1, 2] ⟨⟨_, rfl, .ptr _ _ _ rfl⟩, ⟨_, rfl, .int _ _⟩, ⟨_, rfl, .sl _ _ _ _ _ rfl⟩, ⟨_, rfl, .sl _ _ _ _ _ rfl⟩, ⟨_, rfl, zAc 8 rfl⟩, zAe rfl (by rw [wrapN (by omega) (by omega)]; omega), trivial⟩ ⟨bpo rfl, bpo (zAl _), bpo (zAm _), trivial⟩ .nil
    | cons x s =>
     refine Exists.intro ((x :: s).map byV) (And.intro (zAp (l := x :: s) h1s rfl) ?_)
     refine And.intro (zHq (o := x :: s) (show s.length + 1 ≤ _ by have : s.length + 1 ≤ 65535 := hsl; omega)) ?_
     refine ⟨(i + 1, x :: s, [], en), ⟨h1, hFT, (by show List.length _ ≤ _; simp at hsl ⊢ <;> omega), (by show List.length _ ≤ _; simp at hFl ⊢ <;> omega), (fun h => by cases h), (by show wrN a ([] : List (Bl × Nat)) ((Z.map pcZ).drop (i + 1)) _ _ _ = R; exact hR)⟩, (by show Z.length - (i + 1) < Z.length - i; omega), ?_⟩
     exact rcq [1, 2, 4] ⟨⟨_, rfl, .ptr _ _ _ rfl⟩, ⟨_, rfl, .int _ _⟩, ⟨_, rfl, .sl _ _ _ _ _ rfl⟩, ⟨_, rfl, .sl _ _ _ _ _ rfl⟩, ⟨_, rfl, .sl _ _ _ _ _ rfl⟩, zAe rfl (by rw [wrapN (by omega) (by omega)]; omega), trivial⟩ ⟨bpo rfl, bpo (zAl _), bpo (zAm _), bpo (zAb (x :: s)), trivial⟩ .nil
  ·obtain ⟨e1, e2⟩ := hend (by have := of_decide_eq_false h1; omega)
   subst e1
   refine And.intro rfl (zAi (rcq [1, 2] (d := 7) (d2 := 4) (lv := [(0, .pointer (some ⟨0, 0, none⟩)), (1, .int .i64 a), (11, .slice (some ⟨1, 0, none⟩) Z.length Z.length), (12, .slice (some ⟨2, 0, none⟩) Z.length U), (14, .slice none 0 0), (15, .int .i64 Z.length)]) (bs := [(0, .cells [.slice none 0 0, .int .i64 (en : Int)] 38), (1, .cells (Z.map zi) 3), (2, .cells (Z.map zs) 9)]) (W := [0]) (m := 3) (df := []) ⟨⟨_, rfl, .ptr _ _ _ rfl⟩, ⟨_, rfl, .int _ _⟩, ⟨_, rfl, .sl _ _ _ _ _ rfl⟩, ⟨_, rfl, .sl _ _ _ _ _ rfl⟩, ⟨_, rfl, zAc 8 rfl⟩, ⟨_, rfl, .int _ _⟩, trivial⟩ ⟨bpo rfl, bpo (zAl _), bpo (zAm _), trivial⟩ .nil) (fun f => ?_))
   exact hex [] ([] : List (Bl × Nat)) en f e2 hoF (by show List.length _ ≤ _; have := hl; simp at hol ⊢ <;> omega)
 | cons u us =>
  have hol : us.length + 1 ≤ 70000 * i := hol
  cases F with
  | nil =>
   have hFT : goodT (([] : List (Bl × Nat)) ++ ([] : List (Bl × Nat))) := hg
   refine zAn tbWq [1, 2, 4, 5] 1 _ none mixed _ _ _ ?_
   refine ifK (fun h1 => ?_) (fun h1 => ?_)
   ·have h1 : i < Z.length := by have := of_decide_eq_true h1; omega
    obtain ⟨k, s, hp⟩ : ∃ k s, Z[i] = (k, s) := ⟨_, _, rfl⟩
    obtain ⟨hR, hsl, hat1, hat2⟩ := step h1 k s hp
    have hdom : inI (i : Int) Z.length = true := by simp [inI]; omega
    refine ifK (fun _ => ?_) (fun h2 => absurd (hdom.symm.trans h2) (by decide))
    refine Exists.intro (mkS s) (And.intro hat1 ?_)
    refine ifK (fun _ => ?_) (fun h2 => absurd (of_decide_eq_false h2) (not_not_intro (show s.length ≤ 9223372036854775807 by omega)))
    refine ifK (fun _ => ?_) (fun h2 => absurd (hdom.symm.trans h2) (by decide))
    refine Exists.intro k (And.intro hat2 ?_)
    refine ifK (fun hk => ?_) (fun hk => ?_)
    ·have hk : k = -1 := by simpa using hk
     rw [decide_eq_true hk] at hR
     refine ifK (fun _ => ?_) (fun h2 => absurd (hdom.symm.trans h2) (by decide))
     refine Exists.intro (mkS s) (And.intro hat1 ?_)
     obtain ⟨a', ha'⟩ : ∃ a', a' = IntKind.i64.wrap (a + (((us.length + 1) : Nat) : Int)) := ⟨_, rfl⟩
     unfold wrN at hR
     simp only [show (List.length (u :: us)) = (us.length + 1) from rfl, ← ha'] at hR
     have hsh : shortB (mkS s) = true := by unfold shortB; rw [zAs]; exact Nat.ble_eq_true_of_le (by omega)
     have hTT : (([] : List (Bl × Nat)) ++ ([] : List (Bl × Nat))).length ≤ 1000000000 := by have := hFl; simp only [List.length_append] at this ⊢; simp at this ⊢ <;> omega
     by_cases he : pnE en a' (mkS s) ≠ 0
     ·rw [if_pos he] at hR
      refine Exists.intro (⟨0, none, en, ([] : List (Bl × Nat)) ++ ([] : List (Bl × Nat)), a', mkS s, true, [], []⟩ : RnX) (And.intro ⟨(by rw [ha'] <;> rfl), rfl, rfl, hFT, hTT, hsh, (decide_eq_true he).symm, fun h => by cases h⟩ ?_)
      refine ifK (fun _ => ?_) (fun g => absurd (show pnE en a' (mkS s) = 0 by have g : (pnE en a' (mkS s) != 0) = false := g; simpa using g) he)
      refine And.intro rfl (zAi (rcq [] (d := 7) (d2 := 3) (lv := [(8, .slice none 0 0), (9, .int .i64 (pnE en a' (mkS s)))]) (bs := [(0, .cells [.slice none 0 0, .int .i64 (en : Int)] 38)]) (W := [0]) (m := 1) (df := []) ⟨⟨_, rfl, zAc 8 rfl⟩, ⟨_, rfl, .int _ _⟩, trivial⟩ ⟨bpo rfl, trivial⟩ .nil) (fun f => ?_))
      exact hret _ ([] : List (Bl × Nat)) en f he hR.symm
     ·rw [if_neg he] at hR
      have he : pnE en a' (mkS s) = 0 := Decidable.not_not.1 he
      have eb : bs (mkS s) = s := by simp [bs, mkS]
      obtain ⟨⟨p1, p2⟩, p3, p4, p5⟩ := zCo he
      rw [eb] at p4 p5
      have hpos := ((zAv s).1 p4).1.pos
      obtain ⟨r, hr⟩ : ∃ r, packN (([] : List (Bl × Nat)) ++ ([] : List (Bl × Nat))) a'.toNat s.length s 0 = r := ⟨_, rfl⟩
      have hne := zCj (([] : List (Bl × Nat)) ++ ([] : List (Bl × Nat))) a'.toNat s.length s 0 hpos
      have hl1 := zAy (([] : List (Bl × Nat)) ++ ([] : List (Bl × Nat))) a'.toNat s.length s 0
      have hl2 := zBd (([] : List (Bl × Nat)) ++ ([] : List (Bl × Nat))) a'.toNat s.length s 0
      have hgd := zBo hFT a'.toNat s.length s 0
      rw [hr] at hne hl1 hl2 hgd hR
      obtain ⟨o, G⟩ := r
      cases o with
      | nil => exact absurd rfl hne
      | cons v vs =>
       have hvl : vs.length + 1 ≤ s.length + 2 := hl1
       have hl2 : G.length ≤ vs.length + 1 := hl2
       have hAll : goodT (([] : List (Bl × Nat)) ++ (([] : List (Bl × Nat)) ++ G)) := by rw [← List.append_assoc]; exact hgd
       cases G with
       | nil =>
        refine Exists.intro (⟨0, none, en, ([] : List (Bl × Nat)) ++ ([] : List (Bl × Nat)), a', mkS s, false, v :: vs, []⟩ : RnX) (And.intro ⟨(by rw [ha'] <;> rfl), rfl, rfl, hFT, hTT, hsh, (decide_eq_false (not_not_intro he)).symm, fun _ => by rw [eb]; exact hr⟩ ?_)
        refine Exists.intro ((v :: vs).map byV) (And.intro (zAp (l := v :: vs) h1s rfl) ?_)
        refine And.intro (zFc (us := us) (o := v :: vs) (by have := hl; omega) (show vs.length + 1 ≤ _ by omega) (Nat.succ_pos _)) ?_
        refine ⟨(i + 1, u :: (us ++ v :: vs), [], a'.toNat + (vs.length + 1)), ⟨h1, (by have := hAll; rw [List.append_nil] at this; exact this), (by show List.length _ ≤ _; simp <;> omega), (by show List.length _ ≤ _; simp at hFl hl2 ⊢ <;> omega), (fun h => by cases h), (by show wrN a ([] : List (Bl × Nat)) ((Z.map pcZ).drop (i + 1)) _ _ _ = R; rw [List.append_nil] at hR; exact hR)⟩, (by show Z.length - (i + 1) < Z.length - i; omega), ?_⟩
        exact rcq [1, 2, 6] ⟨⟨_, rfl, .ptr _ _ _ rfl⟩, ⟨_, rfl, .int _ _⟩, ⟨_, rfl, .sl _ _ _ _ _ rfl⟩, ⟨_, rfl, .sl _ _ _ _ _ rfl⟩, ⟨_, rfl, by show RV _ (.slice _ (us.length + 1 + (v :: vs).length) U) _; rw [zDl]; exact .sl _ _ _ _ _ rfl⟩, zAe rfl (by rw [wrapN (by omega) (by omega)]; omega), trivial⟩ ⟨bpo rfl, bpo (zAl _), bpo (zAm _), ⟨by decide, _, rfl, zFd u us (v :: vs)⟩, trivial⟩ .nil
       | cons q G =>
        refine Exists.intro (⟨0, none, en, ([] : List (Bl × Nat)) ++ ([] : List (Bl × Nat)), a', mkS s, false, v :: vs, (q :: G)⟩ : RnX) (And.intro ⟨(by rw [ha'] <;> rfl), rfl, rfl, hFT, hTT, hsh, (decide_eq_false (not_not_intro he)).symm, fun _ => by rw [eb]; exact hr⟩ ?_)
        refine Exists.intro ((v :: vs).map byV) (And.intro (zAp (l := v :: vs) h1s rfl) ?_)
        refine And.intro (zFc (us := us) (o := v :: vs) (by have := hl; omega) (show vs.length + 1 ≤ _ by omega) (Nat.succ_pos _)) ?_
        refine ⟨(i + 1, u :: (us ++ v :: vs), q :: G, a'.toNat + (vs.length + 1)), ⟨h1, hAll, (by show List.length _ ≤ _; simp <;> omega), (by show List.length _ ≤ _; simp at hFl hl2 ⊢ <;> omega), (fun h => by cases h), (by show wrN a ([] : List (Bl × Nat)) ((Z.map pcZ).drop (i + 1)) _ _ _ = R; exact hR)⟩, (by show Z.length - (i + 1) < Z.length - i; omega), ?_⟩
        exact rcq [1, 2, 6, 7] ⟨⟨_, rfl, .ptr _ _ _ rfl⟩, ⟨_, rfl, .int _ _⟩, ⟨_, rfl, .sl _ _ _ _ _ rfl⟩, ⟨_, rfl, .sl _ _ _ _ _ rfl⟩, ⟨_, rfl, by show RV _ (.slice _ (us.length + 1 + (v :: vs).length) U) _; rw [zDl]; exact .sl _ _ _ _ _ rfl⟩, zAe rfl (by rw [wrapN (by omega) (by omega)]; omega), trivial⟩ ⟨⟨by decide, _, rfl, zAr 6 3 (by rfl) zEg _⟩, bpo (zAl _), bpo (zAm _), ⟨by decide, _, rfl, zBb zFw (zAj _)⟩, ⟨by decide, _, rfl, zFd u us (v :: vs)⟩, trivial⟩ .nil
    ·have hk : ¬ k = -1 := by simpa using hk
     rw [decide_eq_false hk] at hR
     unfold wrN at hR
     cases s with
     | nil =>
      refine Exists.intro [] (And.intro (zAp (l := []) h1s rfl) ?_)
      refine ⟨(i + 1, u :: us, [], en), ⟨h1, hFT, (by show List.length _ ≤ _; simp at hol ⊢ <;> omega), (by show List.length _ ≤ _; simp at hFl ⊢ <;> omega), hoF, (by show wrN a ([] : List (Bl × Nat)) ((Z.map pcZ).drop (i + 1)) _ _ _ = R; rw [List.append_nil] at hR; exact hR)⟩, (by show Z.length - (i + 1) < Z.length - i; omega), ?_⟩
      exact rcq [1, 2, 3] ⟨⟨_, rfl, .ptr _ _ _ rfl⟩, ⟨_, rfl, .int _ _⟩, ⟨_, rfl, .sl _ _ _ _ _ rfl⟩, ⟨_, rfl, .sl _ _ _ _ _ rfl⟩, ⟨_, rfl, .sl _ _ _ _ _ rfl⟩, zAe rfl (by rw [wrapN (by omega) (by omega)]; omega), trivial⟩ ⟨bpo rfl, bpo (zAl _), bpo (zAm _), bpo (zAb (u :: us)), trivial⟩ .nil
     | cons x s =>
      refine Exists.intro ((x :: s).map byV) (And.intro (zAp (l := x :: s) h1s rfl) ?_)
      refine And.intro (zFc (us := us) (o := x :: s) (by have := hl; omega) (show s.length + 1 ≤ _ by have : s.length + 1 ≤ 65535 := hsl; omega) (Nat.succ_pos _)) ?_
      refine ⟨(i + 1, u :: (us ++ x :: s), [], en), ⟨h1, hFT, (by show List.length _ ≤ _; simp at hsl ⊢ <;> omega), (by show List.length _ ≤ _; simp at hFl ⊢ <;> omega), (fun h => by cases h), (by show wrN a ([] : List (Bl × Nat)) ((Z.map pcZ).drop (i + 1)) _ _ _ = R; exact hR)⟩, (by show Z.length - (i + 1) < Z.length - i; omega), ?_⟩
      exact rcq [1, 2, 5] ⟨⟨_, rfl, .ptr _ _ _ rfl⟩, ⟨_, rfl, .int _ _⟩, ⟨_, rfl, .sl _ _ _ _ _ rfl⟩, ⟨_, rfl, .sl _ _ _ _ _ rfl⟩, ⟨_, rfl, by show RV _ (.slice _ (us.length + 1 + (x :: s).length) U) _; rw [zDl]; exact .sl _ _ _ _ _ rfl⟩, zAe rfl (by rw [wrapN (by omega) (by omega)]; omega), trivial⟩ ⟨bpo rfl, bpo (zAl _), bpo (zAm _), ⟨by decide, _, rfl, zFd u us (x :: s)⟩, trivial⟩ .nil
   ·obtain ⟨e1, e2⟩ := hend (by have := of_decide_eq_false h1; omega)
    subst e1
    refine And.intro rfl (zAi (rcq [1, 2, 3] (d := 7) (d2 := 4) (lv := [(0, .pointer (some ⟨0, 0, none⟩)), (1, .int .i64 a), (11, .slice (some ⟨1, 0, none⟩) Z.length Z.length), (12, .slice (some ⟨2, 0, none⟩) Z.length U), (14, .slice (some ⟨3, 0, none⟩) (us.length + 1) U), (15, .int .i64 Z.length)]) (bs := [(0, .cells [.slice none 0 0, .int .i64 (en : Int)] 38), (1, .cells (Z.map zi) 3), (2, .cells (Z.map zs) 9), (3, .cells ((u :: us).map byV) 5)]) (W := [0]) (m := 4) (df := []) ⟨⟨_, rfl, .ptr _ _ _ rfl⟩, ⟨_, rfl, .int _ _⟩, ⟨_, rfl, .sl _ _ _ _ _ rfl⟩, ⟨_, rfl, .sl _ _ _ _ _ rfl⟩, ⟨_, rfl, .sl _ _ _ _ _ rfl⟩, ⟨_, rfl, .int _ _⟩, trivial⟩ ⟨bpo rfl, bpo (zAl _), bpo (zAm _), bpo (zAb (u :: us)), trivial⟩ .nil) (fun f => ?_))
    exact hex (u :: us) ([] : List (Bl × Nat)) en f e2 hoF (by show List.length _ ≤ _; have := hl; simp at hol ⊢ <;> omega)
  | cons p F =>
   have hFT : goodT (([] : List (Bl × Nat)) ++ (p :: F)) := hg
   refine zAn tbWq [1, 2, 5, 6] 1 _ none mixed _ _ _ ?_
   refine ifK (fun h1 => ?_) (fun h1 => ?_)
   ·have h1 : i < Z.length := by have := of_decide_eq_true h1; omega
    obtain ⟨k, s, hp⟩ : ∃ k s, Z[i] = (k, s) := ⟨_, _, rfl⟩
    obtain ⟨hR, hsl, hat1, hat2⟩ := step h1 k s hp
    have hdom : inI (i : Int) Z.length = true := by simp [inI]; omega
    refine ifK (fun _ => ?_) (fun h2 => absurd (hdom.symm.trans h2) (by decide))
    refine Exists.intro (mkS s) (And.intro hat1 ?_)
    refine ifK (fun _ => ?_) (fun h2 => absurd (of_decide_eq_false h2) (not_not_intro (show s.length ≤ 9223372036854775807 by omega)))
    refine ifK (fun _ => ?_) (fun h2 => absurd (hdom.symm.trans h2) (by decide))
    refine Exists.intro k (And.intro hat2 ?_)
    refine ifK (fun hk => ?_) (fun hk => ?_)
    ·have hk : k = -1 := by simpa using hk
     rw [decide_eq_true hk] at hR
     refine ifK (fun _ => ?_) (fun h2 => absurd (hdom.symm.trans h2) (by decide))
     refine Exists.intro (mkS s) (And.intro hat1 ?_)
     obtain ⟨a', ha'⟩ : ∃ a', a' = IntKind.i64.wrap (a + (((us.length + 1) : Nat) : Int)) := ⟨_, rfl⟩
     unfold wrN at hR
     simp only [show (List.length (u :: us)) = (us.length + 1) from rfl, ← ha'] at hR
     have hsh : shortB (mkS s) = true := by unfold shortB; rw [zAs]; exact Nat.ble_eq_true_of_le (by omega)
     have hTT : (([] : List (Bl × Nat)) ++ (p :: F)).length ≤ 1000000000 := by have := hFl; simp only [List.length_append] at this ⊢; simp at this ⊢ <;> omega
     by_cases he : pnE en a' (mkS s) ≠ 0
     ·rw [if_pos he] at hR
      refine Exists.intro (⟨0, some 3, en, ([] : List (Bl × Nat)) ++ (p :: F), a', mkS s, true, [], []⟩ : RnX) (And.intro ⟨(by rw [ha'] <;> rfl), (show Tr.get _ 0 = some (AObj.cells [.slice (some ⟨3, 0, none⟩) (([] : List (Bl × Nat)) ++ (p :: F)).length U, .int .i64 (en : Int)] _) from (by rfl)), ⟨(show Tr.get _ 3 = some (AObj.cells ((([] : List (Bl × Nat)) ++ (p :: F)).flatMap layT.g) _) from (by rfl)), (by simp)⟩, hFT, hTT, hsh, (decide_eq_true he).symm, fun h => by cases h⟩ ?_)
      refine ifK (fun _ => ?_) (fun g => absurd (show pnE en a' (mkS s) = 0 by have g : (pnE en a' (mkS s) != 0) = false := g; simpa using g) he)
      refine And.intro rfl (zAi (rcq [3] (d := 7) (d2 := 3) (lv := [(8, .slice none 0 0), (9, .int .i64 (pnE en a' (mkS s)))]) (bs := [(0, .cells [.slice (some ⟨1, 0, none⟩) (([] : List (Bl × Nat)) ++ p :: F).length U, .int .i64 (en : Int)] 38), (1, .cells ((([] : List (Bl × Nat)) ++ p :: F).flatMap layT.g) 107)]) (W := [0]) (m := 2) (df := []) ⟨⟨_, rfl, zAc 8 rfl⟩, ⟨_, rfl, .int _ _⟩, trivial⟩ ⟨⟨by decide, _, rfl, zBj _ 3 1 (by rfl) _ _⟩, bpo (zAj (([] : List (Bl × Nat)) ++ p :: F)), trivial⟩ .nil) (fun f => ?_))
      exact hret _ (p :: F) en f he hR.symm
     ·rw [if_neg he] at hR
      have he : pnE en a' (mkS s) = 0 := Decidable.not_not.1 he
      have eb : bs (mkS s) = s := by simp [bs, mkS]
      obtain ⟨⟨p1, p2⟩, p3, p4, p5⟩ := zCo he
      rw [eb] at p4 p5
      have hpos := ((zAv s).1 p4).1.pos
      obtain ⟨r, hr⟩ : ∃ r, packN (([] : List (Bl × Nat)) ++ (p :: F)) a'.toNat s.length s 0 = r := ⟨_, rfl⟩
      have hne := zCj (([] : List (Bl × Nat)) ++ (p :: F)) a'.toNat s.length s 0 hpos
      have hl1 := zAy (([] : List (Bl × Nat)) ++ (p :: F)) a'.toNat s.length s 0
      have hl2 := zBd (([] : List (Bl × Nat)) ++ (p :: F)) a'.toNat s.length s 0
      have hgd := zBo hFT a'.toNat s.length s 0
      rw [hr] at hne hl1 hl2 hgd hR
      obtain ⟨o, G⟩ := r
      cases o with
      | nil => exact absurd rfl hne
      | cons v vs =>
       have hvl : vs.length + 1 ≤ s.length + 2 := hl1
       have hl2 : G.length ≤ vs.length + 1 := hl2
       have hAll : goodT (([] : List (Bl × Nat)) ++ ((p :: F) ++ G)) := by rw [← List.append_assoc]; exact hgd
       cases G with
       | nil =>
        refine Exists.intro (⟨0, some 3, en, ([] : List (Bl × Nat)) ++ (p :: F), a', mkS s, false, v :: vs, []⟩ : RnX) (And.intro ⟨(by rw [ha'] <;> rfl), (show Tr.get _ 0 = some (AObj.cells [.slice (some ⟨3, 0, none⟩) (([] : List (Bl × Nat)) ++ (p :: F)).length U, .int .i64 (en : Int)] _) from (by rfl)), ⟨(show Tr.get _ 3 = some (AObj.cells ((([] : List (Bl × Nat)) ++ (p :: F)).flatMap layT.g) _) from (by rfl)), (by simp)⟩, hFT, hTT, hsh, (decide_eq_false (not_not_intro he)).symm, fun _ => by rw [eb]; exact hr⟩ ?_)
        refine Exists.intro ((v :: vs).map byV) (And.intro (zAp (l := v :: vs) h1s rfl) ?_)
        refine And.intro (zFc (us := us) (o := v :: vs) (by have := hl; omega) (show vs.length + 1 ≤ _ by omega) (Nat.succ_pos _)) ?_
        refine ⟨(i + 1, u :: (us ++ v :: vs), p :: F, a'.toNat + (vs.length + 1)), ⟨h1, (by have := hAll; rw [List.append_nil] at this; exact this), (by show List.length _ ≤ _; simp <;> omega), (by show List.length _ ≤ _; simp at hFl hl2 ⊢ <;> omega), (fun h => by cases h), (by show wrN a ([] : List (Bl × Nat)) ((Z.map pcZ).drop (i + 1)) _ _ _ = R; rw [List.append_nil] at hR; exact hR)⟩, (by show Z.length - (i + 1) < Z.length - i; omega), ?_⟩
        exact rcq [1, 2, 3, 7] ⟨⟨_, rfl, .ptr _ _ _ rfl⟩, ⟨_, rfl, .int _ _⟩, ⟨_, rfl, .sl _ _ _ _ _ rfl⟩, ⟨_, rfl, .sl _ _ _ _ _ rfl⟩, ⟨_, rfl, by show RV _ (.slice _ (us.length + 1 + (v :: vs).length) U) _; rw [zDl]; exact .sl _ _ _ _ _ rfl⟩, zAe rfl (by rw [wrapN (by omega) (by omega)]; omega), trivial⟩ ⟨⟨by decide, _, rfl, zAr 3 3 (by rfl) rfl _⟩, bpo (zAl _), bpo (zAm _), bpo (zAj (([] : List (Bl × Nat)) ++ p :: F)), ⟨by decide, _, rfl, zFd u us (v :: vs)⟩, trivial⟩ .nil
       | cons q G =>
        refine Exists.intro (⟨0, some 3, en, ([] : List (Bl × Nat)) ++ (p :: F), a', mkS s, false, v :: vs, (q :: G)⟩ : RnX) (And.intro ⟨(by rw [ha'] <;> rfl), (show Tr.get _ 0 = some (AObj.cells [.slice (some ⟨3, 0, none⟩) (([] : List (Bl × Nat)) ++ (p :: F)).length U, .int .i64 (en : Int)] _) from (by rfl)), ⟨(show Tr.get _ 3 = some (AObj.cells ((([] : List (Bl × Nat)) ++ (p :: F)).flatMap layT.g) _) from (by rfl)), (by simp)⟩, hFT, hTT, hsh, (decide_eq_false (not_not_intro he)).symm, fun _ => by rw [eb]; exact hr⟩ ?_)
        refine Exists.intro ((v :: vs).map byV) (And.intro (zAp (l := v :: vs) h1s rfl) ?_)
        refine And.intro (zFc (us := us) (o := v :: vs) (by have := hl; omega) (show vs.length + 1 ≤ _ by omega) (Nat.succ_pos _)) ?_
        refine ⟨(i + 1, u :: (us ++ v :: vs), p :: (F ++ q :: G), a'.toNat + (vs.length + 1)), ⟨h1, hAll, (by show List.length _ ≤ _; simp <;> omega), (by show List.length _ ≤ _; simp at hFl hl2 ⊢ <;> omega), (fun h => by cases h), (by show wrN a ([] : List (Bl × Nat)) ((Z.map pcZ).drop (i + 1)) _ _ _ = R; exact hR)⟩, (by show Z.length - (i + 1) < Z.length - i; omega), ?_⟩
        exact rcq [1, 2, 7, 8] ⟨⟨_, rfl, .ptr _ _ _ rfl⟩, ⟨_, rfl, .int _ _⟩, ⟨_, rfl, .sl _ _ _ _ _ rfl⟩, ⟨_, rfl, .sl _ _ _ _ _ rfl⟩, ⟨_, rfl, by show RV _ (.slice _ (us.length + 1 + (v :: vs).length) U) _; rw [zDl]; exact .sl _ _ _ _ _ rfl⟩, zAe rfl (by rw [wrapN (by omega) (by omega)]; omega), trivial⟩ ⟨⟨by decide, _, rfl, zAr 7 3 (by rfl) zEg _⟩, bpo (zAl _), bpo (zAm _), ⟨by decide, _, rfl, zBb zFw (zAj _)⟩, ⟨by decide, _, rfl, zFd u us (v :: vs)⟩, trivial⟩ .nil
    ·have hk : ¬ k = -1 := by simpa using hk
     rw [decide_eq_false hk] at hR
     unfold wrN at hR
     cases s with
     | nil =>
      refine Exists.intro [] (And.intro (zAp (l := []) h1s rfl) ?_)
      refine ⟨(i + 1, u :: us, p :: F, en), ⟨h1, hFT, (by show List.length _ ≤ _; simp at hol ⊢ <;> omega), (by show List.length _ ≤ _; simp at hFl ⊢ <;> omega), hoF, (by show wrN a ([] : List (Bl × Nat)) ((Z.map pcZ).drop (i + 1)) _ _ _ = R; rw [List.append_nil] at hR; exact hR)⟩, (by show Z.length - (i + 1) < Z.length - i; omega), ?_⟩
      exact rcq [1, 2, 3, 4] ⟨⟨_, rfl, .ptr _ _ _ rfl⟩, ⟨_, rfl, .int _ _⟩, ⟨_, rfl, .sl _ _ _ _ _ rfl⟩, ⟨_, rfl, .sl _ _ _ _ _ rfl⟩, ⟨_, rfl, .sl _ _ _ _ _ rfl⟩, zAe rfl (by rw [wrapN (by omega) (by omega)]; omega), trivial⟩ ⟨⟨by decide, _, rfl, zBj _ 3 3 (by rfl) _ _⟩, bpo (zAl _), bpo (zAm _), bpo (zAj (([] : List (Bl × Nat)) ++ p :: F)), bpo (zAb (u :: us)), trivial⟩ .nil
     | cons x s =>
      refine Exists.intro ((x :: s).map byV) (And.intro (zAp (l := x :: s) h1s rfl) ?_)
      refine And.intro (zFc (us := us) (o := x :: s) (by have := hl; omega) (show s.length + 1 ≤ _ by have : s.length + 1 ≤ 65535 := hsl; omega) (Nat.succ_pos _)) ?_
      refine ⟨(i + 1, u :: (us ++ x :: s), p :: F, en), ⟨h1, hFT, (by show List.length _ ≤ _; simp at hsl ⊢ <;> omega), (by show List.length _ ≤ _; simp at hFl ⊢ <;> omega), (fun h => by cases h), (by show wrN a ([] : List (Bl × Nat)) ((Z.map pcZ).drop (i + 1)) _ _ _ = R; exact hR)⟩, (by show Z.length - (i + 1) < Z.length - i; omega), ?_⟩
      exact rcq [1, 2, 3, 6] ⟨⟨_, rfl, .ptr _ _ _ rfl⟩, ⟨_, rfl, .int _ _⟩, ⟨_, rfl, .sl _ _ _ _ _ rfl⟩, ⟨_, rfl, .sl _ _ _ _ _ rfl⟩, ⟨_, rfl, by show RV _ (.slice _ (us.length + 1 + (x :: s).length) U) _; rw [zDl]; exact .sl _ _ _ _ _ rfl⟩, zAe rfl (by rw [wrapN (by omega) (by omega)]; omega), trivial⟩ ⟨⟨by decide, _, rfl, zBj _ 3 3 (by rfl) _ _⟩, bpo (zAl _), bpo (zAm _), bpo (zAj (([] : List (Bl × Nat)) ++ p :: F)), ⟨by decide, _, rfl, zFd u us (x :: s)⟩, trivial⟩ .nil
   ·obtain ⟨e1, e2⟩ := hend (by have := of_decide_eq_false h1; omega)
    subst e1
    refine And.intro rfl (zAi (rcq [1, 2, 3, 4] (d := 7) (d2 := 4) (lv := [(0, .pointer (some ⟨0, 0, none⟩)), (1, .int .i64 a), (11, .slice (some ⟨1, 0, none⟩) Z.length Z.length), (12, .slice (some ⟨2, 0, none⟩) Z.length U), (14, .slice (some ⟨4, 0, none⟩) (us.length + 1) U), (15, .int .i64 Z.length)]) (bs := [(0, .cells [.slice (some ⟨3, 0, none⟩) (([] : List (Bl × Nat)) ++ p :: F).length U, .int .i64 (en : Int)] 38), (1, .cells (Z.map zi) 3), (2, .cells (Z.map zs) 9), (3, .cells ((([] : List (Bl × Nat)) ++ p :: F).flatMap layT.g) 107), (4, .cells ((u :: us).map byV) 5)]) (W := [0]) (m := 5) (df := []) ⟨⟨_, rfl, .ptr _ _ _ rfl⟩, ⟨_, rfl, .int _ _⟩, ⟨_, rfl, .sl _ _ _ _ _ rfl⟩, ⟨_, rfl, .sl _ _ _ _ _ rfl⟩, ⟨_, rfl, .sl _ _ _ _ _ rfl⟩, ⟨_, rfl, .int _ _⟩, trivial⟩ ⟨⟨by decide, _, rfl, zBj _ 3 3 (by rfl) _ _⟩, bpo (zAl _), bpo (zAm _), bpo (zAj (([] : List (Bl × Nat)) ++ p :: F)), bpo (zAb (u :: us)), trivial⟩ .nil) (fun f => ?_))
    exact hex (u :: us) (p :: F) en f e2 hoF (by show List.length _ ≤ _; have := hl; simp at hol ⊢ <;> omega)
end Go.Proofs.Ytmpaeabkdhjamaa
namespace Go.Proofs.Ytmpaeabkdhjamaa
open Go Go.RowKit
theorem FnS.wr {f : FuncId} {args : List Value} {H H' : Tr AObj} {n0 n : Nat} {v : Value} {wr : List Nat} (W : List Nat) (h : FnS Try.prog 0 f args H n0 (.ret v H' n wr)) : FnS Try.prog 0 f args H n0 (.ret v H' n (W ++ wr)) := fun E w args' h1 h2 h3 h4 h5 =>
 (h E w args' h1 h2 h3 h4 h5).mono fun _ _ ⟨E', v', q1, q2, q3, q4⟩ => ⟨E', v', q1, q2, q3, q4.sub (fun _ hk _ => List.mem_append.2 (.inr hk))⟩
def ovN (b : Nat) (o : Bl) : Value := match o with
 | [] => .slice none 0 0
 | _ :: l => .slice (some ⟨b, 0, none⟩) (l.length + 1) U
theorem zUb (en : Nat) : pnE en (-1) (mkS [0]) = 2 := by
 unfold pnE
 have h : (labels (bs (mkS [0]))).2 = 0 := (zAv _).2 ⟨.root, by decide⟩
 rw [if_neg (by simpa using h), if_pos (.inl (by decide))]
theorem zJt {t : Int} {l : Bs} (h : (checkD t l != 0) = false) : checkD t l = 0 := by simpa using h
theorem write_fn (a t : Int) (s : ByteArray) (en : Nat) (T : List (Bl × Nat)) (ck : Nat) (hT : goodT T) (hs : shortB s = true) (e : Int) (o : Bl) (F : List (Bl × Nat)) (en' : Nat) (hD : wrD en T a t (bs s) = (e, o, F, en')) :
  ∃ r, FnS Try.prog 0 48 [.pointer (some ⟨0, 0, none⟩), .int .i64 a, .int .i64 t, .string s] (heap 2 [(0, .cells [.map (some 1), .int .i64 (en : Int)] 73), (1, .map (encT T) ck)]) 2 r ∧
   ∃ H m wr b, r = .ret (.tuple #[ovN b o, .int .i64 e]) H m wr ∧ (o ≠ [] → 2 ≤ b ∧ b < JJ ∧ H.get b = some (.cells (o.map byV) 5)) ∧ H.get 0 = some (.cells [.map (some 1), .int .i64 (en' : Int)] 73) ∧ H.get 1 = some (.map (encT (T ++ F)) (ck + F.length)) := by
 refine zBm mixed tbWr [1] Try.func48 (c := bodyOf Try.f48) (by kernel_rfl) ?_
 have hroot : pnR en T (-1) (mkS [0]) true [] [] := ⟨by rw [zUb]; rfl, fun h => by cases h⟩
 refine Exists.intro (⟨0, 1, en, T, ck, -1, mkS [0], true, [], []⟩ : PkX) (And.intro ⟨rfl, rfl, (show Tr.get _ 1 = some (AObj.map (encT T) ck) from rfl), hT, rfl, hroot⟩ ?_)
 refine And.intro hs ?_
 unfold wrD at hD
 refine ifK (fun g => ?_) (fun g => ?_)
 ·have g : checkD t (bs s) ≠ 0 := by simpa using g
  rw [if_pos g] at hD
  simp only [Prod.mk.injEq] at hD
  obtain ⟨rfl, rfl, rfl, rfl⟩ := hD
  exact ⟨_, _, _, 0, rfl, fun h => absurd rfl h, rfl, by rw [List.append_nil]; rfl⟩
 have g := zJt g
 rw [if_neg (by simpa using g)] at hD
 obtain ⟨k1, k2, k3, k4⟩ := zKh g
 have hps : ∀ p ∈ pcsD t (bs s), p.1.length ≤ 65535 := fun p hp => by
  obtain ⟨i, hi, e1⟩ := List.mem_iff_getElem.1 hp
  have := zOd _ i hi
  rw [e1] at this; omega
 refine And.intro hs ?_
 refine ifK (fun g1 => ?_) (fun g1 => ?_)
 ·obtain ⟨ps, hp⟩ := Option.isSome_iff_exists.1 g1
  have hpcs : pcsD t (bs s) = outP t (bs s) := by unfold pcsD; rw [hp]
  rw [hpcs] at hD hps k3
  refine ifK (fun g2 => ?_) (fun g2 => ?_)
  ·refine wr_loop a (outP t (bs s)) U T ck en hT hps (by omega) _ hD (rcq [2] ⟨⟨_, rfl, .ptr _ _ _ rfl⟩, ⟨_, rfl, .int _ _⟩, ⟨_, rfl, zAc 8 rfl⟩, ⟨_, rfl, .sl _ _ _ _ _ rfl⟩, ⟨_, rfl, .int _ _⟩, ⟨_, rfl, .int _ _⟩, trivial⟩ ⟨⟨by decide, _, rfl, zAg 1 1 (by exact rfl) en⟩, ⟨by decide, _, rfl, (by show RO Try.prog _ (.map (encT T) ck) (.map (encT (T ++ [])) (ck + 0)); rw [List.append_nil]; exact RO.map _ _ _ (zAh _))⟩, bpo (zAa _ zCl _), trivial⟩ .nil) ?_ ?_
   ·intro out G en2 f hR hl
    simp only [Prod.mk.injEq] at hR
    obtain ⟨rfl, rfl, rfl, rfl⟩ := hR
    cases o with
    | nil => exact ⟨_, _, _, 0, rfl, fun h => absurd rfl h, rfl, rfl⟩
    | cons u us => exact ⟨_, _, _, 3, rfl, fun _ => ⟨by decide, by decide, rfl⟩, rfl, rfl⟩
   ·intro e2 G en2 f he hR
    simp only [Prod.mk.injEq] at hR
    obtain ⟨rfl, rfl, rfl, rfl⟩ := hR
    exact ⟨_, _, _, 0, rfl, fun h => absurd rfl h, rfl, rfl⟩
  ·exfalso
   obtain ⟨o', _, q⟩ := zNj hp (zCi g).2.2.2
   rw [q] at g2; cases g2
 ·have hp : ptsT t = none := by simpa using g1
  have hpcs : pcsD t (bs s) = [(bs s, false)] := by unfold pcsD; rw [hp]
  rw [hpcs] at hD hps k3
  refine wr_loop a [(bs s, false)] 1 T ck en hT hps (by simp) _ hD (rcq [2] ⟨⟨_, rfl, .ptr _ _ _ rfl⟩, ⟨_, rfl, .int _ _⟩, ⟨_, rfl, zAc 8 rfl⟩, ⟨_, rfl, .sl _ _ _ _ _ rfl⟩, ⟨_, rfl, .int _ _⟩, ⟨_, rfl, .int _ _⟩, trivial⟩ ⟨⟨by decide, _, rfl, zAg 1 1 (by exact rfl) en⟩, ⟨by decide, _, rfl, (by show RO Try.prog _ (.map (encT T) ck) (.map (encT (T ++ [])) (ck + 0)); rw [List.append_nil]; exact RO.map _ _ _ (zAh _))⟩, ⟨by decide, _, rfl, zBb (by rw [zQj s]; rfl) rfl⟩, trivial⟩ .nil) ?_ ?_
  ·intro out G en2 f hR hl
   simp only [Prod.mk.injEq] at hR
   obtain ⟨rfl, rfl, rfl, rfl⟩ := hR
   cases o with
   | nil => exact ⟨_, _, _, 0, rfl, fun h => absurd rfl h, rfl, rfl⟩
   | cons u us => exact ⟨_, _, _, 3, rfl, fun _ => ⟨by decide, by decide, rfl⟩, rfl, rfl⟩
  ·intro e2 G en2 f he hR
   simp only [Prod.mk.injEq] at hR
   obtain ⟨rfl, rfl, rfl, rfl⟩ := hR
   exact ⟨_, _, _, 0, rfl, fun h => absurd rfl h, rfl, rfl⟩
structure WrX where
 pb : Nat
 mb : Nat
 en : Nat
 T : List (Bl × Nat)
 ck : Nat
 a : Int
 t : Int
 s : ByteArray
 e : Int
 o : Bl
 F : List (Bl × Nat)
 en' : Nat
def packO (pb mb : Nat) (T : List (Bl × Nat)) (ck : Nat) (e : Int) (o : Bl) (F : List (Bl × Nat)) (en' : Nat) (H : Tr AObj) (n : Nat) : Res := match o with
 | [] => .ret (.tuple #[.slice none 0 0, .int .i64 e]) ((H.set pb (some (.cells [.map (some mb), .int .i64 (en' : Int)] 73))).set mb (some (.map (encT (T ++ F)) (ck + F.length)))) n [pb, mb]
 | u :: us => .ret (.tuple #[.slice (some ⟨n, 0, none⟩) (us.length + 1) U, .int .i64 e]) (((H.set pb (some (.cells [.map (some mb), .int .i64 (en' : Int)] 73))).set mb (some (.map (encT (T ++ F)) (ck + F.length)))).set n (some (.cells ((u :: us).map byV) 5))) (n + 1) [pb, mb]
theorem zIl {f : FuncId} {args args0 : List Value} {H H0 H' : Tr AObj} {n m pb mb b en ck en' : Nat} {wr : List Nat} {T F : List (Bl × Nat)} {e : Int} {o : Bl} (hF : FnS Try.prog 0 f args0 H0 2 (.ret (.tuple #[ovN b o, .int .i64 e]) H' m wr))
  (hA : [pb, mb].Nodup) (hcb : CallB Try.prog [pb, mb] H H0) (harg : RL (caR [pb, mb]) args args0) (h2 : H.get pb = some (.cells [.map (some mb), .int .i64 (en : Int)] 73)) (h3 : H.get mb = some (.map (encT T) ck)) (w0 : 0 ∈ wr) (w1 : 1 ∈ wr)
  (gb : o ≠ [] → 2 ≤ b ∧ b < JJ ∧ H'.get b = some (.cells (o.map byV) 5)) (g2 : H'.get 0 = some (.cells [.map (some 1), .int .i64 (en' : Int)] 73)) (g3 : H'.get 1 = some (.map (encT (T ++ F)) (ck + F.length))) (hw0 : ∀ j, j < 2 → ∀ o, H0.get j = some o → ¬ o.isWin) :
  CallOK Try.prog 0 f args H n (packO pb mb T ck e o F en' H n) := by
 have hw : ∀ j ∈ [pb, mb], ∃ o, H.get j = some o ∧ ¬ o.isWin := fun j hj => by
  simp only [List.mem_cons, List.not_mem_nil, or_false] at hj
  rcases hj with rfl | rfl
  ·exact ⟨_, h2, fun h => h⟩
  ·exact ⟨_, h3, fun h => h⟩
 have hw0' : ∀ k o, H0.get k = some o → k < [pb, mb].length → ¬ o.isWin := fun k o h1 h2 => hw0 k h2 o h1
 have hbx : ∀ B : List Nat, RO Try.prog (tau [pb, mb] B n) (.cells [.map (some 1), .int .i64 (en' : Int)] 73) (.cells [.map (some mb), .int .i64 (en' : Int)] 73) := fun B => zAg 1 mb (zBl rfl) en'
 cases o with
 | nil =>
  refine zAu [pb, mb] [] [(pb, some (.cells [.map (some mb), .int .i64 (en' : Int)] 73)), (mb, some (.map (encT (T ++ F)) (ck + F.length)))] hF hA hcb harg hw0' hw List.nodup_nil (fun x hx => by cases hx) (.tuple _ _ (.cons _ _ _ _ (.snil _ _) (.cons _ _ _ _ (.int _ _) .nil)))
   (fun p hp => by simp at hp; rcases hp with rfl | rfl <;> simp) (fun k j e1 _ => .inl (by have := List.mem_of_getElem? e1; simp at this; rcases this with rfl | rfl <;> simp)) (fun j ob hm => ?_)
  rcases List.mem_cons.1 hm with e | hm
  ·cases e; exact ⟨0, _, zBl rfl, g2, hbx _, fun _ => w0⟩
  rcases List.mem_cons.1 hm with e | hm
  ·cases e; exact ⟨1, _, zBl rfl, g3, RO.map _ _ _ (zAh _), fun _ => w1⟩
  ·cases hm
 | cons u us =>
  obtain ⟨b1, b2, b3⟩ := gb (List.cons_ne_nil _ _)
  refine zAu [pb, mb] [b] [(pb, some (.cells [.map (some mb), .int .i64 (en' : Int)] 73)), (mb, some (.map (encT (T ++ F)) (ck + F.length))), (n, some (.cells ((u :: us).map byV) 5))] hF hA hcb harg hw0' hw (by simp) (fun x hx => by simp at hx; subst hx; exact ⟨b1, b2, by rw [b3]; simp⟩) (.tuple _ _ (.cons _ _ _ _ (.sl _ _ _ _ _ (zFr (A := [pb, mb]) b1)) (.cons _ _ _ _ (.int _ _) .nil)))
   (fun p hp => by simp at hp; rcases hp with rfl | rfl | rfl <;> simp) (fun k j e1 _ => .inl (by have := List.mem_of_getElem? e1; simp at this; rcases this with rfl | rfl <;> simp)) (fun j ob hm => ?_)
  rcases List.mem_cons.1 hm with e | hm
  ·cases e; exact ⟨0, _, zBl rfl, g2, hbx _, fun _ => w0⟩
  rcases List.mem_cons.1 hm with e | hm
  ·cases e; exact ⟨1, _, zBl rfl, g3, RO.map _ _ _ (zAh _), fun _ => w1⟩
  rcases List.mem_cons.1 hm with e | hm
  ·cases e; exact ⟨b, _, zFr (A := [pb, mb]) b1, b3, .same (zAb _), fun h => by have h : b < 2 := h; omega⟩
  ·cases hm
theorem packB {pb mb en : Nat} {T : List (Bl × Nat)} {ck : Nat} {H : Tr AObj} (h2 : H.get pb = some (.cells [.map (some mb), .int .i64 (en : Int)] 73)) (h3 : H.get mb = some (.map (encT T) ck)) :
  [pb, mb].Nodup ∧ CallB Try.prog [pb, mb] H (heap 2 [(0, .cells [.map (some 1), .int .i64 (en : Int)] 73), (1, .map (encT T) ck)]) ∧ ∀ j, j < 2 → ∀ o, (heap 2 [(0, AObj.cells [.map (some 1), .int .i64 (en : Int)] 73), (1, .map (encT T) ck)]).get j = some o → ¬ o.isWin := by
 have hne : pb ≠ mb := fun e => by subst e; rw [h2] at h3; cases h3
 refine ⟨by simp [hne], zCh ⟨⟨pb, _, rfl, h2, zAg mb 1 rfl en⟩, ⟨mb, _, rfl, h3, RO.map _ _ _ (zAh _)⟩, trivial⟩, fun j hj ob ho => ?_⟩
 match j, hj, ho with
 | 0, _, ho => have ho : some (AObj.cells _ _) = some ob := ho; cases ho; exact fun h => h
 | 1, _, ho => have ho : some (AObj.map _ _) = some ob := ho; cases ho; exact fun h => h
theorem zPt {pb mb mb' en en' : Nat} {T T' : List (Bl × Nat)} {ck ck' : Nat} {H : Tr AObj} (h2 : H.get pb = some (.cells [.map (some mb), .int .i64 (en : Int)] 73)) (h3 : H.get mb = some (.map (encT T) ck)) (k2 : H.get pb = some (.cells [.map (some mb'), .int .i64 (en' : Int)] 73)) (k3 : H.get mb' = some (.map (encT T') ck')) : mb = mb' ∧ en = en' ∧ T = T' ∧ ck = ck' := by
 rw [h2] at k2
 simp only [Option.some.injEq, AObj.cells.injEq, List.cons.injEq, Value.map.injEq, Value.int.injEq, true_and, and_true] at k2
 obtain ⟨rfl, e⟩ := k2
 rw [h3] at k3
 simp only [Option.some.injEq, AObj.map.injEq] at k3
 exact ⟨rfl, by omega, zNd k3.1, k3.2⟩
theorem zPs {pb mb : Nat} {T : List (Bl × Nat)} {ck : Nat} {e : Int} {o : Bl} {F : List (Bl × Nat)} {en' : Nat} {H : Tr AObj} {n : Nat} {K : Res → Prop} (h : frcN pb fun pb => frcN mb fun mb => K (packO pb mb T ck e o F en' H n)) : K (packO pb mb T ck e o F en' H n) := by rw [zCe, zCe] at h; exact h
noncomputable def ct_write : Ct Try.prog 0 :=
 CtR.ct { f := 48, X := WrX,
          pre := fun x as0 H _ => as0 = [.pointer (some ⟨x.pb, 0, none⟩), .int .i64 x.a, .int .i64 x.t, .string x.s] ∧ H.get x.pb = some (.cells [.map (some x.mb), .int .i64 (x.en : Int)] 73) ∧ H.get x.mb = some (.map (encT x.T) x.ck) ∧ goodT x.T ∧ shortB x.s = true ∧ wrD x.en x.T x.a x.t (bs x.s) = (x.e, x.o, x.F, x.en'),
          out := fun x H n => packO x.pb x.mb x.T x.ck x.e x.o x.F x.en' H n,
          tr := fun x H n K => frcN x.pb fun pb => frcN x.mb fun mb => K (packO pb mb x.T x.ck x.e x.o x.F x.en' H n),
          trOk := fun x H n K h => zPs h,
          ok := fun x as0 H n ⟨h1, h2, h3, h4, h5, h6⟩ => by
           subst h1
           obtain ⟨pb, mb, en, T, ck, a, t, s, e, o, F, en'⟩ := x
           obtain ⟨q1, q2, q3⟩ := packB h2 h3
           obtain ⟨r, hF, H', m, wr, b, rfl, g1, g2, g3⟩ := write_fn a t s en T ck h4 h5 e o F en' h6
           have := zIl (n := n) (hF.wr [0, 1]) q1 q2 (.cons _ _ _ _ (.ptr _ _ _ rfl) (.cons _ _ _ _ (.int _ _) (.cons _ _ _ _ (.int _ _) (.cons _ _ _ _ (.string _) .nil)))) h2 h3 (by simp) (by simp) g1 g2 g3 q3
           cases o <;> exact this,
          uniq := fun x y as0 H n ⟨h1, h2, h3, _, _, h6⟩ ⟨k1, k2, k3, _, _, k6⟩ => by
           obtain ⟨pb, mb, en, T, ck, a, t, s, e, o, F, en1⟩ := x
           obtain ⟨pb', mb', en', T', ck', a', t', s', e', o', F', en1'⟩ := y
           rw [h1] at k1
           simp only [List.cons.injEq, Value.pointer.injEq, Option.some.injEq, Addr.mk.injEq, and_true, Value.int.injEq, true_and, Value.string.injEq] at k1
           obtain ⟨rfl, rfl, rfl, rfl⟩ := k1
           obtain ⟨rfl, rfl, rfl, rfl⟩ := zPt h2 h3 k2 k3
           have := h6.symm.trans k6
           simp only [Prod.mk.injEq] at this
           obtain ⟨rfl, rfl, rfl, rfl⟩ := this
           rfl }
end Go.Proofs.Ytmpaeabkdhjamaa
namespace Go.Proofs.Ytmpaeabkdhjamaa
open Go Go.RowKit
theorem rwo_fn (a t : Int) (s : ByteArray) (en : Nat) (T : List (Bl × Nat)) (hT : goodT T) (hT0 : T ≠ []) (hTl : T.length ≤ 900000000) (hs : (bs s).length ≤ 100000000) (e : Int) (o : Bl) (F : List (Bl × Nat)) (en' : Nat) (hD : wrD en T a t (bs s) = (e, o, F, en')) :
  ∃ r, FnS Try.prog 0 50 [.pointer (some ⟨0, 0, none⟩), .int .i64 a, .int .i64 t, .string s] (heap 2 [(0, .cells [.slice (some ⟨1, 0, none⟩) T.length U, .int .i64 (en : Int)] 38), (1, .cells (T.flatMap layT.g) 107)]) 2 r ∧
   ∃ H m wr b l, r = .ret (.tuple #[ovN b o, .int .i64 e]) H m wr ∧ (o ≠ [] → 2 ≤ b ∧ b < JJ ∧ H.get b = some (.cells (o.map byV) 5)) ∧ (F = [] ∧ l = 1 ∨ F ≠ [] ∧ 2 ≤ l ∧ l < JJ ∧ (o ≠ [] → l ≠ b)) ∧ H.get 0 = some (.cells [.slice (some ⟨l, 0, none⟩) (T ++ F).length U, .int .i64 (en' : Int)] 38) ∧ H.get l = some (.cells ((T ++ F).flatMap layT.g) 107) := by
 refine zBm mixed tbWq [1] Try.func50 (c := bodyOf Try.f50) (by kernel_rfl) ?_
 refine And.intro (size8 hs) ?_
 unfold wrD at hD
 refine ifK (fun g => ?_) (fun g => ?_)
 ·have g : checkD t (bs s) ≠ 0 := by simpa using g
  rw [if_pos g] at hD
  simp only [Prod.mk.injEq] at hD
  obtain ⟨rfl, rfl, rfl, rfl⟩ := hD
  exact ⟨_, _, _, 0, 1, rfl, fun h => absurd rfl h, .inl ⟨rfl, rfl⟩, by rw [List.append_nil]; rfl, by rw [List.append_nil]; rfl⟩
 have g := zJt g
 rw [if_neg (by simpa using g)] at hD
 obtain ⟨k1, k2, k3, k4⟩ := zKh g
 obtain ⟨z1, z2⟩ := pcsR_eq (zCi g).2.2.2
 obtain ⟨Z, hZ⟩ : ∃ Z, Z = (formL t).zip (rpO t (bs s)) := ⟨_, rfl⟩
 have hZp : Z.map pcZ = pcsD t (bs s) := by rw [hZ]; exact z1
 have hz : Z.length = (formL t).length := by rw [hZ, List.length_zip]; omega
 have y1 : Z.map zi = (formL t).map intV := by rw [hZ, show zi = intV ∘ Prod.fst from rfl, ← List.map_map, List.map_fst_zip (by omega)]
 have y2 : Z.map zs = (rpO t (bs s)).map str := by rw [hZ, show zs = str ∘ Prod.snd from rfl, ← List.map_map, List.map_snd_zip (by omega)]
 have hps : ∀ p ∈ Z, p.2.length ≤ 65535 := fun p hp => by
  have hm : pcZ p ∈ pcsD t (bs s) := by rw [← hZp]; exact List.mem_map_of_mem hp
  obtain ⟨i, hi, e1⟩ := List.mem_iff_getElem.1 hm
  have := zOd _ i hi
  rw [e1] at this
  have this : p.2.length ≤ _ := this
  omega
 have hl : Z.length ≤ 1000 := by have := congrArg List.length hZp; rw [List.length_map] at this; omega
 rw [← hZp] at hD
 refine And.intro (size8 hs) ?_
 refine ifK (fun g1 => ?_) (fun g1 => absurd (zCi g).2.2.2 (by rw [fits_no g1]; decide))
 refine rwo_loop a Z T en hT hT0 hTl hps hl _ hD (rcq [2, 3] ⟨⟨_, rfl, .ptr _ _ _ rfl⟩, ⟨_, rfl, .int _ _⟩, ⟨_, rfl, ?_⟩, ⟨_, rfl, ?_⟩, ⟨_, rfl, zAc 8 rfl⟩, ⟨_, rfl, .int _ _⟩, trivial⟩ ⟨⟨by decide, _, rfl, zBj _ 1 1 (by rfl) _ _⟩, bpo (zAj T), ⟨by decide, _, rfl, zBb y1.symm (zAl _)⟩, ⟨by decide, _, rfl, zBb y2.symm (zAm _)⟩, trivial⟩ .nil) ?_ ?_
 ·rw [hz]; exact .sl _ _ _ _ _ rfl
 ·rw [hz, z2]; exact .sl _ _ _ _ _ rfl
 ·intro out G en2 f hR hoF hl2
  simp only [Prod.mk.injEq] at hR
  obtain ⟨rfl, rfl, rfl, rfl⟩ := hR
  cases o with
  | nil =>
   have hF0 := hoF rfl
   subst hF0
   exact ⟨_, _, _, 0, 1, rfl, fun h => absurd rfl h, .inl ⟨rfl, rfl⟩, by rw [List.append_nil]; rfl, by rw [List.append_nil]; rfl⟩
  | cons u us =>
   cases F with
   | nil => exact ⟨_, _, _, 4, 1, rfl, fun _ => ⟨by decide, by decide, rfl⟩, .inl ⟨rfl, rfl⟩, by rw [List.append_nil]; rfl, by rw [List.append_nil]; rfl⟩
   | cons p F => exact ⟨_, _, _, 5, 4, rfl, fun _ => ⟨by decide, by decide, rfl⟩, .inr ⟨List.cons_ne_nil _ _, by decide, by decide, fun _ => by decide⟩, rfl, rfl⟩
 ·intro e2 G en2 f he hR
  simp only [Prod.mk.injEq] at hR
  obtain ⟨rfl, rfl, rfl, rfl⟩ := hR
  cases F with
  | nil => exact ⟨_, _, _, 0, 1, rfl, fun h => absurd rfl h, .inl ⟨rfl, rfl⟩, by rw [List.append_nil]; rfl, by rw [List.append_nil]; rfl⟩
  | cons p F => exact ⟨_, _, _, 0, 2, rfl, fun h => absurd rfl h, .inr ⟨List.cons_ne_nil _ _, by decide, by decide, fun h => absurd rfl h⟩, rfl, rfl⟩
theorem rwn_fn (a t : Int) (s : ByteArray) (en : Nat) (hs : (bs s).length ≤ 100000000) (e : Int) (o : Bl) (F : List (Bl × Nat)) (en' : Nat) (hD : wrD en [] a t (bs s) = (e, o, F, en')) :
  ∃ r, FnS Try.prog 0 50 [.pointer (some ⟨0, 0, none⟩), .int .i64 a, .int .i64 t, .string s] (heap 1 [(0, .cells [.slice none 0 0, .int .i64 (en : Int)] 38)]) 1 r ∧
   ∃ H m wr b l, r = .ret (.tuple #[ovN b o, .int .i64 e]) H m wr ∧ (o ≠ [] → 1 ≤ b ∧ b < JJ ∧ H.get b = some (.cells (o.map byV) 5)) ∧ (F = [] ∧ H.get 0 = some (.cells [.slice none 0 0, .int .i64 (en' : Int)] 38) ∨ F ≠ [] ∧ (1 ≤ l ∧ l < JJ ∧ (o ≠ [] → l ≠ b)) ∧ H.get 0 = some (.cells [.slice (some ⟨l, 0, none⟩) F.length U, .int .i64 (en' : Int)] 38) ∧ H.get l = some (.cells (F.flatMap layT.g) 107)) := by
 refine zBm mixed tbWq [1] Try.func50 (c := bodyOf Try.f50) (by kernel_rfl) ?_
 refine And.intro (size8 hs) ?_
 unfold wrD at hD
 refine ifK (fun g => ?_) (fun g => ?_)
 ·have g : checkD t (bs s) ≠ 0 := by simpa using g
  rw [if_pos g] at hD
  simp only [Prod.mk.injEq] at hD
  obtain ⟨rfl, rfl, rfl, rfl⟩ := hD
  exact ⟨_, _, _, 0, 0, rfl, fun h => absurd rfl h, .inl ⟨rfl, rfl⟩⟩
 have g := zJt g
 rw [if_neg (by simpa using g)] at hD
 obtain ⟨k1, k2, k3, k4⟩ := zKh g
 obtain ⟨z1, z2⟩ := pcsR_eq (zCi g).2.2.2
 obtain ⟨Z, hZ⟩ : ∃ Z, Z = (formL t).zip (rpO t (bs s)) := ⟨_, rfl⟩
 have hZp : Z.map pcZ = pcsD t (bs s) := by rw [hZ]; exact z1
 have hz : Z.length = (formL t).length := by rw [hZ, List.length_zip]; omega
 have y1 : Z.map zi = (formL t).map intV := by rw [hZ, show zi = intV ∘ Prod.fst from rfl, ← List.map_map, List.map_fst_zip (by omega)]
 have y2 : Z.map zs = (rpO t (bs s)).map str := by rw [hZ, show zs = str ∘ Prod.snd from rfl, ← List.map_map, List.map_snd_zip (by omega)]
 have hps : ∀ p ∈ Z, p.2.length ≤ 65535 := fun p hp => by
  have hm : pcZ p ∈ pcsD t (bs s) := by rw [← hZp]; exact List.mem_map_of_mem hp
  obtain ⟨i, hi, e1⟩ := List.mem_iff_getElem.1 hm
  have := zOd _ i hi
  rw [e1] at this
  have this : p.2.length ≤ _ := this
  omega
 have hl : Z.length ≤ 1000 := by have := congrArg List.length hZp; rw [List.length_map] at this; omega
 rw [← hZp] at hD
 refine And.intro (size8 hs) ?_
 refine ifK (fun g1 => ?_) (fun g1 => absurd (zCi g).2.2.2 (by rw [fits_no g1]; decide))
 refine rwn_loop a Z en hps hl _ hD (rcq [1, 2] ⟨⟨_, rfl, .ptr _ _ _ rfl⟩, ⟨_, rfl, .int _ _⟩, ⟨_, rfl, ?_⟩, ⟨_, rfl, ?_⟩, ⟨_, rfl, zAc 8 rfl⟩, ⟨_, rfl, .int _ _⟩, trivial⟩ ⟨bpo rfl, ⟨by decide, _, rfl, zBb y1.symm (zAl _)⟩, ⟨by decide, _, rfl, zBb y2.symm (zAm _)⟩, trivial⟩ .nil) ?_ ?_
 ·rw [hz]; exact .sl _ _ _ _ _ rfl
 ·rw [hz, z2]; exact .sl _ _ _ _ _ rfl
 ·intro out G en2 f hR hoF hl2
  simp only [Prod.mk.injEq] at hR
  obtain ⟨rfl, rfl, rfl, rfl⟩ := hR
  cases o with
  | nil =>
   have hF0 := hoF rfl
   subst hF0
   exact ⟨_, _, _, 0, 0, rfl, fun h => absurd rfl h, .inl ⟨rfl, rfl⟩⟩
  | cons u us =>
   cases F with
   | nil => exact ⟨_, _, _, 3, 0, rfl, fun _ => ⟨by decide, by decide, rfl⟩, .inl ⟨rfl, rfl⟩⟩
   | cons p F => exact ⟨_, _, _, 4, 3, rfl, fun _ => ⟨by decide, by decide, rfl⟩, .inr ⟨List.cons_ne_nil _ _, ⟨by decide, by decide, fun _ => by decide⟩, rfl, rfl⟩⟩
 ·intro e2 G en2 f he hR
  simp only [Prod.mk.injEq] at hR
  obtain ⟨rfl, rfl, rfl, rfl⟩ := hR
  cases F with
  | nil => exact ⟨_, _, _, 0, 0, rfl, fun h => absurd rfl h, .inl ⟨rfl, rfl⟩⟩
  | cons p F => exact ⟨_, _, _, 0, 1, rfl, fun h => absurd rfl h, .inr ⟨List.cons_ne_nil _ _, ⟨by decide, by decide, fun h => absurd rfl h⟩, rfl, rfl⟩⟩
def rwO (pb : Nat) (v : Option Nat) (T : List (Bl × Nat)) (e : Int) (o : Bl) (F : List (Bl × Nat)) (en' : Nat) (H : Tr AObj) (n : Nat) : Res := match v, F, o with
 | none, [], [] => .ret (.tuple #[.slice none 0 0, .int .i64 e]) (setL H [(pb, some (.cells [.slice none 0 0, .int .i64 (en' : Int)] 38))]) n [pb]
 | none, [], u :: us => .ret (.tuple #[.slice (some ⟨n, 0, none⟩) (us.length + 1) U, .int .i64 e]) (setL H [(pb, some (.cells [.slice none 0 0, .int .i64 (en' : Int)] 38)), (n, some (.cells ((u :: us).map byV) 5))]) (n + 1) [pb]
 | none, p :: F, [] => .ret (.tuple #[.slice none 0 0, .int .i64 e]) (setL H [(pb, some (.cells [.slice (some ⟨n, 0, none⟩) (T ++ p :: F).length U, .int .i64 (en' : Int)] 38)), (n, some (.cells ((T ++ p :: F).flatMap layT.g) 107))]) (n + 1) [pb]
 | none, p :: F, u :: us => .ret (.tuple #[.slice (some ⟨n, 0, none⟩) (us.length + 1) U, .int .i64 e]) (setL H [(pb, some (.cells [.slice (some ⟨n + 1, 0, none⟩) (T ++ p :: F).length U, .int .i64 (en' : Int)] 38)), (n, some (.cells ((u :: us).map byV) 5)), (n + 1, some (.cells ((T ++ p :: F).flatMap layT.g) 107))]) (n + 2) [pb]
 | some b, [], [] => .ret (.tuple #[.slice none 0 0, .int .i64 e]) (setL H [(pb, some (.cells [.slice (some ⟨b, 0, none⟩) T.length U, .int .i64 (en' : Int)] 38))]) n [pb, b]
 | some b, [], u :: us => .ret (.tuple #[.slice (some ⟨n, 0, none⟩) (us.length + 1) U, .int .i64 e]) (setL H [(pb, some (.cells [.slice (some ⟨b, 0, none⟩) T.length U, .int .i64 (en' : Int)] 38)), (n, some (.cells ((u :: us).map byV) 5))]) (n + 1) [pb, b]
 | some b, p :: F, [] => .ret (.tuple #[.slice none 0 0, .int .i64 e]) (setL H [(pb, some (.cells [.slice (some ⟨n, 0, none⟩) (T ++ p :: F).length U, .int .i64 (en' : Int)] 38)), (b, none), (n, some (.cells ((T ++ p :: F).flatMap layT.g) 107))]) (n + 1) [pb, b]
 | some b, p :: F, u :: us => .ret (.tuple #[.slice (some ⟨n, 0, none⟩) (us.length + 1) U, .int .i64 e]) (setL H [(pb, some (.cells [.slice (some ⟨n + 1, 0, none⟩) (T ++ p :: F).length U, .int .i64 (en' : Int)] 38)), (b, none), (n, some (.cells ((u :: us).map byV) 5)), (n + 1, some (.cells ((T ++ p :: F).flatMap layT.g) 107))]) (n + 2) [pb, b]
theorem zJs {f : FuncId} {args args0 : List Value} {H H0 H' : Tr AObj} {n m pb lb b en en' l : Nat} {wr : List Nat} {T F : List (Bl × Nat)} {e : Int} {o : Bl} (hF : FnS Try.prog 0 f args0 H0 2 (.ret (.tuple #[ovN b o, .int .i64 e]) H' m wr))
  (hA : [pb, lb].Nodup) (hcb : CallB Try.prog [pb, lb] H H0) (harg : RL (caR [pb, lb]) args args0) (h2 : H.get pb = some (.cells [.slice (some ⟨lb, 0, none⟩) T.length U, .int .i64 (en : Int)] 38)) (h3 : H.get lb = some (.cells (T.flatMap layT.g) 107)) (w0 : 0 ∈ wr) (_ : 1 ∈ wr)
  (gb : o ≠ [] → 2 ≤ b ∧ b < JJ ∧ H'.get b = some (.cells (o.map byV) 5)) (gl : F = [] ∧ l = 1 ∨ F ≠ [] ∧ 2 ≤ l ∧ l < JJ ∧ (o ≠ [] → l ≠ b)) (g2 : H'.get 0 = some (.cells [.slice (some ⟨l, 0, none⟩) (T ++ F).length U, .int .i64 (en' : Int)] 38)) (g3 : H'.get l = some (.cells ((T ++ F).flatMap layT.g) 107)) (hw0 : ∀ j, j < 2 → ∀ o, H0.get j = some o → ¬ o.isWin) :
  CallOK Try.prog 0 f args H n (rwO pb (some lb) T e o F en' H n) := by
 have hw : ∀ j ∈ [pb, lb], ∃ o, H.get j = some o ∧ ¬ o.isWin := fun j hj => by
  simp only [List.mem_cons, List.not_mem_nil, or_false] at hj
  rcases hj with rfl | rfl
  ·exact ⟨_, h2, fun h => h⟩
  ·exact ⟨_, h3, fun h => h⟩
 have hw0' : ∀ k o, H0.get k = some o → k < [pb, lb].length → ¬ o.isWin := fun k o h1 h2 => hw0 k h2 o h1
 rcases gl with ⟨f0, rfl⟩ | ⟨f0, hl1, hlJ, hlb⟩
 ·subst f0
  rw [List.append_nil] at g2 g3
  cases o with
  | nil =>
   refine zAu (n := n) [pb, lb] [] [(pb, some (.cells [.slice (some ⟨lb, 0, none⟩) T.length U, .int .i64 (en' : Int)] 38))] hF hA hcb harg hw0' hw (by simp) (fun x hx => by cases hx)
    (.tuple _ _ (.cons _ _ _ _ (.snil _ _) (.cons _ _ _ _ (.int _ _) .nil))) (fun p hp => by simp at hp; subst hp <;> simp) (fun q j e1 _ => by
    match q, e1 with
    | 0, e1 => cases e1; exact .inl (by simp)
    | 1, e1 => cases e1; exact .inr ⟨_, _, h3, g3, .same (zAj T)⟩
    | q + 2, e1 => simp at e1) (fun j ob hm => ?_)
   rcases List.mem_cons.1 hm with e | hm
   ·cases e; exact ⟨0, _, zBl rfl, g2, zBj _ _ _ (zBl rfl) _ _, fun _ => w0⟩
   cases hm
  | cons u us =>
   obtain ⟨b1, b2, b3⟩ := gb (List.cons_ne_nil _ _)
   have t1 : tau [pb, lb] [b] n b n := zDt 0 (by simp) b1 rfl
   refine zAu (n := n) [pb, lb] [b] [(pb, some (.cells [.slice (some ⟨lb, 0, none⟩) T.length U, .int .i64 (en' : Int)] 38)), (n, some (.cells ((u :: us).map byV) 5))] hF hA hcb harg hw0' hw (by simp) (fun x hx => by simp at hx; subst hx; exact ⟨b1, b2, by rw [b3]; simp⟩)
    (.tuple _ _ (.cons _ _ _ _ (.sl _ _ _ _ _ t1) (.cons _ _ _ _ (.int _ _) .nil))) (fun p hp => by simp at hp; rcases hp with rfl | rfl <;> simp) (fun q j e1 _ => by
    match q, e1 with
    | 0, e1 => cases e1; exact .inl (by simp)
    | 1, e1 => cases e1; exact .inr ⟨_, _, h3, g3, .same (zAj T)⟩
    | q + 2, e1 => simp at e1) (fun j ob hm => ?_)
   rcases List.mem_cons.1 hm with e | hm
   ·cases e; exact ⟨0, _, zBl rfl, g2, zBj _ _ _ (zBl rfl) _ _, fun _ => w0⟩
   rcases List.mem_cons.1 hm with e | hm
   ·cases e; exact ⟨b, _, t1, b3, .same (zAb _), fun h => by have h : b < 2 := h; omega⟩
   cases hm
 ·obtain ⟨p, F, rfl⟩ : ∃ p F', F = p :: F' := by cases F with | nil => exact absurd rfl f0 | cons p F => exact ⟨p, F, rfl⟩
  cases o with
  | nil =>
   have t2 : tau [pb, lb] [l] n l n := zDt 0 (by simp) hl1 rfl
   refine zAu (n := n) [pb, lb] [l] [(pb, some (.cells [.slice (some ⟨n, 0, none⟩) (T ++ p :: F).length U, .int .i64 (en' : Int)] 38)), (lb, none), (n, some (.cells ((T ++ p :: F).flatMap layT.g) 107))] hF hA hcb harg hw0' hw (by simp) (fun x hx => by simp at hx; subst hx; exact ⟨hl1, hlJ, by rw [g3]; simp⟩)
    (.tuple _ _ (.cons _ _ _ _ (.snil _ _) (.cons _ _ _ _ (.int _ _) .nil))) (fun p hp => by simp at hp; rcases hp with rfl | rfl | rfl <;> simp) (fun q j e1 _ => .inl (by have := List.mem_of_getElem? e1; simp at this; rcases this with rfl | rfl <;> simp)) (fun j ob hm => ?_)
   rcases List.mem_cons.1 hm with e | hm
   ·cases e; exact ⟨0, _, zBl rfl, g2, zBj _ _ _ t2 _ _, fun _ => w0⟩
   rcases List.mem_cons.1 hm with e | hm
   ·cases e
   rcases List.mem_cons.1 hm with e | hm
   ·cases e; exact ⟨l, _, t2, g3, .same (zAj _), fun h => by have h : l < 2 := h; omega⟩
   cases hm
  | cons u us =>
   obtain ⟨b1, b2, b3⟩ := gb (List.cons_ne_nil _ _)
   have hBn : [b, l].Nodup := by simp [Ne.symm (hlb (List.cons_ne_nil _ _))]
   have t1 : tau [pb, lb] [b, l] n b n := zDt 0 hBn b1 rfl
   have t2 : tau [pb, lb] [b, l] n l (n + 1) := zDt 1 hBn hl1 rfl
   refine zAu (n := n) [pb, lb] [b, l] [(pb, some (.cells [.slice (some ⟨n + 1, 0, none⟩) (T ++ p :: F).length U, .int .i64 (en' : Int)] 38)), (lb, none), (n, some (.cells ((u :: us).map byV) 5)), (n + 1, some (.cells ((T ++ p :: F).flatMap layT.g) 107))] hF hA hcb harg hw0' hw hBn (fun x hx => by
    simp only [List.mem_cons, List.not_mem_nil, or_false] at hx
    rcases hx with rfl | rfl
    ·exact ⟨b1, b2, by rw [b3]; simp⟩
    ·exact ⟨hl1, hlJ, by rw [g3]; simp⟩)
    (.tuple _ _ (.cons _ _ _ _ (.sl _ _ _ _ _ t1) (.cons _ _ _ _ (.int _ _) .nil))) (fun p hp => by simp at hp; rcases hp with rfl | rfl | rfl | rfl <;> simp) (fun q j e1 _ => .inl (by have := List.mem_of_getElem? e1; simp at this; rcases this with rfl | rfl <;> simp)) (fun j ob hm => ?_)
   rcases List.mem_cons.1 hm with e | hm
   ·cases e; exact ⟨0, _, zBl rfl, g2, zBj _ _ _ t2 _ _, fun _ => w0⟩
   rcases List.mem_cons.1 hm with e | hm
   ·cases e
   rcases List.mem_cons.1 hm with e | hm
   ·cases e; exact ⟨b, _, t1, b3, .same (zAb _), fun h => by have h : b < 2 := h; omega⟩
   rcases List.mem_cons.1 hm with e | hm
   ·cases e; exact ⟨l, _, t2, g3, .same (zAj _), fun h => by have h : l < 2 := h; omega⟩
   cases hm
theorem zJr {f : FuncId} {args args0 : List Value} {H H0 H' : Tr AObj} {n m pb b en en' l : Nat} {wr : List Nat} {T F : List (Bl × Nat)} {e : Int} {o : Bl} (hF : FnS Try.prog 0 f args0 H0 1 (.ret (.tuple #[ovN b o, .int .i64 e]) H' m wr))
  (hA : [pb].Nodup) (hcb : CallB Try.prog [pb] H H0) (harg : RL (caR [pb]) args args0) (h2 : H.get pb = some (.cells [.slice none 0 0, .int .i64 (en : Int)] 38)) (w0 : 0 ∈ wr)
  (gb : o ≠ [] → 1 ≤ b ∧ b < JJ ∧ H'.get b = some (.cells (o.map byV) 5)) (hT0 : T = []) (gl : F = [] ∧ H'.get 0 = some (.cells [.slice none 0 0, .int .i64 (en' : Int)] 38) ∨ F ≠ [] ∧ (1 ≤ l ∧ l < JJ ∧ (o ≠ [] → l ≠ b)) ∧ H'.get 0 = some (.cells [.slice (some ⟨l, 0, none⟩) F.length U, .int .i64 (en' : Int)] 38) ∧ H'.get l = some (.cells (F.flatMap layT.g) 107)) (hw0 : ∀ j, j < 1 → ∀ o, H0.get j = some o → ¬ o.isWin) :
  CallOK Try.prog 0 f args H n (rwO pb none T e o F en' H n) := by
 have hw : ∀ j ∈ [pb], ∃ o, H.get j = some o ∧ ¬ o.isWin := fun j hj => by
  simp only [List.mem_cons, List.not_mem_nil, or_false] at hj
  subst hj; exact ⟨_, h2, fun h => h⟩
 have hw0' : ∀ k o, H0.get k = some o → k < [pb].length → ¬ o.isWin := fun k o h1 h2 => hw0 k h2 o h1
 subst hT0
 rcases gl with ⟨f0, g2⟩ | ⟨f0, ⟨hl1, hlJ, hlb⟩, g2, g3⟩
 ·subst f0
  cases o with
  | nil =>
   refine zAu (n := n) [pb] [] [(pb, some (.cells [.slice none 0 0, .int .i64 (en' : Int)] 38))] hF hA hcb harg hw0' hw (by simp) (fun x hx => by cases hx)
    (.tuple _ _ (.cons _ _ _ _ (.snil _ _) (.cons _ _ _ _ (.int _ _) .nil))) (fun p hp => by simp at hp; subst hp <;> simp) (fun q j e1 _ => .inl (by have := List.mem_of_getElem? e1; simp at this; subst this; simp)) (fun j ob hm => ?_)
   rcases List.mem_cons.1 hm with e | hm
   ·cases e; exact ⟨0, _, zBl rfl, g2, .same rfl, fun _ => w0⟩
   cases hm
  | cons u us =>
   obtain ⟨b1, b2, b3⟩ := gb (List.cons_ne_nil _ _)
   have t1 : tau [pb] [b] n b n := zDt 0 (by simp) b1 rfl
   refine zAu (n := n) [pb] [b] [(pb, some (.cells [.slice none 0 0, .int .i64 (en' : Int)] 38)), (n, some (.cells ((u :: us).map byV) 5))] hF hA hcb harg hw0' hw (by simp) (fun x hx => by simp at hx; subst hx; exact ⟨b1, b2, by rw [b3]; simp⟩)
    (.tuple _ _ (.cons _ _ _ _ (.sl _ _ _ _ _ t1) (.cons _ _ _ _ (.int _ _) .nil))) (fun p hp => by simp at hp; rcases hp with rfl | rfl <;> simp) (fun q j e1 _ => .inl (by have := List.mem_of_getElem? e1; simp at this; subst this; simp)) (fun j ob hm => ?_)
   rcases List.mem_cons.1 hm with e | hm
   ·cases e; exact ⟨0, _, zBl rfl, g2, .same rfl, fun _ => w0⟩
   rcases List.mem_cons.1 hm with e | hm
   ·cases e; exact ⟨b, _, t1, b3, .same (zAb _), fun h => by have h : b < 1 := h; omega⟩
   cases hm
 ·obtain ⟨p, F, rfl⟩ : ∃ p F', F = p :: F' := by cases F with | nil => exact absurd rfl f0 | cons p F => exact ⟨p, F, rfl⟩
  cases o with
  | nil =>
   have t2 : tau [pb] [l] n l n := zDt 0 (by simp) hl1 rfl
   refine zAu (n := n) [pb] [l] [(pb, some (.cells [.slice (some ⟨n, 0, none⟩) ([] ++ p :: F).length U, .int .i64 (en' : Int)] 38)), (n, some (.cells (([] ++ p :: F).flatMap layT.g) 107))] hF hA hcb harg hw0' hw (by simp) (fun x hx => by simp at hx; subst hx; exact ⟨hl1, hlJ, by rw [g3]; simp⟩)
    (.tuple _ _ (.cons _ _ _ _ (.snil _ _) (.cons _ _ _ _ (.int _ _) .nil))) (fun p hp => by simp at hp; rcases hp with rfl | rfl <;> simp) (fun q j e1 _ => .inl (by have := List.mem_of_getElem? e1; simp at this; subst this; simp)) (fun j ob hm => ?_)
   rcases List.mem_cons.1 hm with e | hm
   ·cases e; exact ⟨0, _, zBl rfl, g2, zBj _ _ _ t2 _ _, fun _ => w0⟩
   rcases List.mem_cons.1 hm with e | hm
   ·cases e; exact ⟨l, _, t2, g3, .same (zAj _), fun h => by have h : l < 1 := h; omega⟩
   cases hm
  | cons u us =>
   obtain ⟨b1, b2, b3⟩ := gb (List.cons_ne_nil _ _)
   have hBn : [b, l].Nodup := by simp [Ne.symm (hlb (List.cons_ne_nil _ _))]
   have t1 : tau [pb] [b, l] n b n := zDt 0 hBn b1 rfl
   have t2 : tau [pb] [b, l] n l (n + 1) := zDt 1 hBn hl1 rfl
   refine zAu (n := n) [pb] [b, l] [(pb, some (.cells [.slice (some ⟨n + 1, 0, none⟩) ([] ++ p :: F).length U, .int .i64 (en' : Int)] 38)), (n, some (.cells ((u :: us).map byV) 5)), (n + 1, some (.cells (([] ++ p :: F).flatMap layT.g) 107))] hF hA hcb harg hw0' hw hBn (fun x hx => by
    simp only [List.mem_cons, List.not_mem_nil, or_false] at hx
    rcases hx with rfl | rfl
    ·exact ⟨b1, b2, by rw [b3]; simp⟩
    ·exact ⟨hl1, hlJ, by rw [g3]; simp⟩)
    (.tuple _ _ (.cons _ _ _ _ (.sl _ _ _ _ _ t1) (.cons _ _ _ _ (.int _ _) .nil))) (fun p hp => by simp at hp; rcases hp with rfl | rfl | rfl <;> simp) (fun q j e1 _ => .inl (by have := List.mem_of_getElem? e1; simp at this; subst this; simp)) (fun j ob hm => ?_)
   rcases List.mem_cons.1 hm with e | hm
   ·cases e; exact ⟨0, _, zBl rfl, g2, zBj _ _ _ t2 _ _, fun _ => w0⟩
   rcases List.mem_cons.1 hm with e | hm
   ·cases e; exact ⟨b, _, t1, b3, .same (zAb _), fun h => by have h : b < 1 := h; omega⟩
   rcases List.mem_cons.1 hm with e | hm
   ·cases e; exact ⟨l, _, t2, g3, .same (zAj _), fun h => by have h : l < 1 := h; omega⟩
   cases hm
structure RwX where
 pb : Nat
 v : Option Nat
 en : Nat
 T : List (Bl × Nat)
 a : Int
 t : Int
 s : ByteArray
 e : Int
 o : Bl
 F : List (Bl × Nat)
 en' : Nat
theorem rpackB {pb lb en : Nat} {T : List (Bl × Nat)} {H : Tr AObj} (h2 : H.get pb = some (.cells [.slice (some ⟨lb, 0, none⟩) T.length U, .int .i64 (en : Int)] 38)) (h3 : H.get lb = some (.cells (T.flatMap layT.g) 107)) :
  [pb, lb].Nodup ∧ CallB Try.prog [pb, lb] H (heap 2 [(0, .cells [.slice (some ⟨1, 0, none⟩) T.length U, .int .i64 (en : Int)] 38), (1, .cells (T.flatMap layT.g) 107)]) ∧ ∀ j, j < 2 → ∀ o, (heap 2 [(0, AObj.cells [.slice (some ⟨1, 0, none⟩) T.length U, .int .i64 (en : Int)] 38), (1, .cells (T.flatMap layT.g) 107)]).get j = some o → ¬ o.isWin := by
 refine ⟨by simp [pb_ne h2 h3], zCh ⟨⟨pb, _, rfl, h2, zBj (caR [pb, lb]) lb 1 rfl _ _⟩, ⟨lb, _, rfl, h3, .same (zAj T)⟩, trivial⟩, fun j hj ob ho => ?_⟩
 match j, hj, ho with
 | 0, _, ho => have ho : some (AObj.cells _ _) = some ob := ho; cases ho; exact fun h => h
 | 1, _, ho => have ho : some (AObj.cells _ _) = some ob := ho; cases ho; exact fun h => h
theorem rpackB0 {pb en : Nat} {H : Tr AObj} (h2 : H.get pb = some (.cells [.slice none 0 0, .int .i64 (en : Int)] 38)) :
  [pb].Nodup ∧ CallB Try.prog [pb] H (heap 1 [(0, .cells [.slice none 0 0, .int .i64 (en : Int)] 38)]) ∧ ∀ j, j < 1 → ∀ o, (heap 1 [(0, AObj.cells [.slice none 0 0, .int .i64 (en : Int)] 38)]).get j = some o → ¬ o.isWin := by
 refine ⟨by simp, zCh ⟨⟨pb, _, rfl, h2, .same rfl⟩, trivial⟩, fun j hj ob ho => ?_⟩
 match j, hj, ho with
 | 0, _, ho => have ho : some (AObj.cells _ _) = some ob := ho; cases ho; exact fun h => h
theorem rwO_frc {pb : Nat} {v : Option Nat} {T : List (Bl × Nat)} {e : Int} {o : Bl} {F : List (Bl × Nat)} {en' : Nat} {H : Tr AObj} {n : Nat} {K : Res → Prop} (h : frcN pb fun pb => match v with | none => K (rwO pb none T e o F en' H n) | some b => frcN b fun b => K (rwO pb (some b) T e o F en' H n)) : K (rwO pb v T e o F en' H n) := by
 rw [zCe] at h
 cases v with
 | none => exact h
 | some b =>
  have h : (frcN b fun b => _) := h
  rw [zCe] at h; exact h
noncomputable def ct_rwrite : Ct Try.prog 0 :=
 CtR.ct { f := 50, X := RwX,
          pre := fun x as0 H _ => as0 = [.pointer (some ⟨x.pb, 0, none⟩), .int .i64 x.a, .int .i64 x.t, .string x.s] ∧ H.get x.pb = some (.cells [rnV x.v x.T, .int .i64 (x.en : Int)] 38) ∧ rnAt x.v x.T H ∧ goodT x.T ∧ x.T.length ≤ 900000000 ∧ (bs x.s).length ≤ 100000000 ∧ wrD x.en x.T x.a x.t (bs x.s) = (x.e, x.o, x.F, x.en'),
          out := fun x H n => rwO x.pb x.v x.T x.e x.o x.F x.en' H n,
          tr := fun x H n K => frcN x.pb fun pb => match x.v with | none => K (rwO pb none x.T x.e x.o x.F x.en' H n) | some b => frcN b fun b => K (rwO pb (some b) x.T x.e x.o x.F x.en' H n),
          trOk := fun x H n K h => rwO_frc h,
          ok := fun x as0 H n ⟨h1, h2, h3, h4, h5, h6, h7⟩ => by
           subst h1
           obtain ⟨pb, v, en, T, a, t, s, e, o, F, en'⟩ := x
           cases v with
           | none =>
            have h3 : T = [] := h3
            subst h3
            obtain ⟨q1, q2, q3⟩ := rpackB0 h2
            obtain ⟨r, hF, H', m, wr, b, l, rfl, g1, g2⟩ := rwn_fn a t s en h6 e o F en' h7
            have := zJr (n := n) (hF.wr [0]) q1 q2 (.cons _ _ _ _ (.ptr _ _ _ rfl) (.cons _ _ _ _ (.int _ _) (.cons _ _ _ _ (.int _ _) (.cons _ _ _ _ (.string _) .nil)))) h2 (by simp) g1 rfl g2 q3
            cases F <;> cases o <;> exact this
           | some b =>
            obtain ⟨h3, hT0⟩ := h3
            obtain ⟨q1, q2, q3⟩ := rpackB h2 h3
            obtain ⟨r, hF, H', m, wr, b', l, rfl, g1, gl, g2, g3⟩ := rwo_fn a t s en T h4 hT0 h5 h6 e o F en' h7
            have := zJs (n := n) (hF.wr [0, 1]) q1 q2 (.cons _ _ _ _ (.ptr _ _ _ rfl) (.cons _ _ _ _ (.int _ _) (.cons _ _ _ _ (.int _ _) (.cons _ _ _ _ (.string _) .nil)))) h2 h3 (by simp) (by simp) g1 gl g2 g3 q3
            cases F <;> cases o <;> exact this,
          uniq := fun x y as0 H n ⟨h1, h2, h3, _, _, _, h6⟩ ⟨k1, k2, k3, _, _, _, k6⟩ => by
           obtain ⟨pb, v, en, T, a, t, s, e, o, F, en1⟩ := x
           obtain ⟨pb', v', en', T', a', t', s', e', o', F', en1'⟩ := y
           rw [h1] at k1
           simp only [List.cons.injEq, Value.pointer.injEq, Option.some.injEq, Addr.mk.injEq, and_true, Value.int.injEq, true_and, Value.string.injEq] at k1
           obtain ⟨rfl, rfl, rfl, rfl⟩ := k1
           obtain ⟨rfl, rfl, rfl⟩ := rn_pre h2 k2 h3 k3
           have := h6.symm.trans k6
           simp only [Prod.mk.injEq] at this
           obtain ⟨rfl, rfl, rfl, rfl⟩ := this
           rfl }
end Go.Proofs.Ytmpaeabkdhjamaa
namespace Go.Proofs.Ytmpaeabkdhjamaa
open Go Go.RowKit
noncomputable def inl_put4 : Ct Try.prog 0 := Ct.inl (tbOf mixed []) mixed [] 70 Try.f70 Try.func70 (bodyOf Try.f70) (by kernel_rfl)
noncomputable def inl_rput : Ct Try.prog 0 := Ct.inl (tbOf mixed []) mixed [] 68 Try.f68 Try.func68 (bodyOf Try.f68) (by kernel_rfl)
noncomputable def tbWr5 : Tb Try.prog 0 := tbOf mixed [inl_put4]
noncomputable def tbWr5r : Tb Try.prog 0 := tbOf mixed [inl_rput]
def by4 (v : Nat) : Bl := [UInt8.ofNat (v / 2 ^ 24), UInt8.ofNat (v / 2 ^ 16), UInt8.ofNat (v / 2 ^ 8), UInt8.ofNat (v / 2 ^ 0)]
def by2 (v : Nat) : Bl := [hi8 v, lo8 v]
theorem wrapD (v k : Nat) : IntKind.u8.wrap (Int.fdiv (v : Int) (2 ^ k)) = ((UInt8.ofNat (v / 2 ^ k)).toNat : Int) := by rw [fdivP]; exact wrap8
theorem lo8_eq (v : Nat) : UInt8.ofNat (v / 2 ^ 0) = lo8 v := by
 unfold lo8; apply UInt8.toNat_inj.1; simp
theorem put32_fn (v : Nat) (h : v < 4294967296) : ∃ r, FnS Try.prog 0 47 [.int .i64 (v : Int)] .e 0 r ∧ ∃ H m wr, r = .ret (.tuple #[.slice (some ⟨8, 0, none⟩) 4 U, .int .i64 0]) H m wr ∧ H.get 8 = some (.cells ((by4 v).map byV) 5) := by
 have a1 : shrI .i64 (v : Int) (IntKind.i64.wrap (8 * 4)) = 0 := by
  show Int.fdiv (v : Int) (2 ^ 32) = 0
  rw [fdivP]; omega
 refine zBm mixed tbWr5 [] Try.func47 (c := bodyOf Try.f47) (by kernel_rfl) ?_
 refine ifK (fun g => by have g : (shrI .i64 (v : Int) (IntKind.i64.wrap (8 * 4)) != 0) = true := g; rw [a1] at g; cases g) (fun _ => ?_)
 refine And.intro (by kernel_rfl) ?_
 refine And.intro (by kernel_rfl) ?_
 refine And.intro (by kernel_rfl) ?_
 refine ⟨_, _, _, rfl, ?_⟩
 show some (AObj.cells [.int .u8 (IntKind.u8.wrap (Int.fdiv (v : Int) (2 ^ 24))), .int .u8 (IntKind.u8.wrap (Int.fdiv (v : Int) (2 ^ 16))), .int .u8 (IntKind.u8.wrap (Int.fdiv (v : Int) (2 ^ 8))), .int .u8 (IntKind.u8.wrap (Int.fdiv (v : Int) (2 ^ 0)))] _) = _
 rw [wrapD, wrapD, wrapD, wrapD]; rfl
noncomputable def ct_newB (f : FuncId) (b : Nat) (hb : b < JJ) (bound : Nat) (bytes : Nat → Bl) (k : Nat) (ok : ∀ v, v < bound → ∃ r, FnS Try.prog 0 f [.int .i64 (v : Int)] .e 0 r ∧ ∃ H m wr, r = .ret (.tuple #[.slice (some ⟨b, 0, none⟩) k U, .int .i64 0]) H m wr ∧ H.get b = some (.cells ((bytes v).map byV) 5)) : Ct Try.prog 0 :=
 CtR.ct { f := f, X := Nat, pre := fun v a _ _ => a = [.int .i64 (v : Int)] ∧ v < bound,
          out := fun v H n => .ret (.tuple #[.slice (some ⟨n, 0, none⟩) k U, .int .i64 0]) (layN H n [((bytes v).map byV, 5)]) (n + 1) [],
          ok := fun v a H n ⟨h1, h2⟩ => by
           subst h1
           obtain ⟨r, hF, H', m, wr, rfl, hg⟩ := ok v h2
           refine zGj (fun n => .tuple #[.slice (some ⟨n, 0, none⟩) k U, .int .i64 0]) [] [b] [((bytes v).map byV, 5)] hF (fun k _ => Nat.zero_le k) (fun i j o hij hi => by simp at hi) (ArgOK.of (.cons _ _ _ _ (.int _ _) .nil)) (fun k o hk => by cases hk) (by simp) (fun x hx => by simp at hx; subst hx; exact ⟨Nat.zero_le _, hb⟩) rfl (fun i b xs e hb hc => ?_)
            (fun n => .tuple _ _ (.cons _ _ _ _ (.sl _ _ _ _ _ (zDt 0 (by simp) (Nat.zero_le _) rfl)) (.cons _ _ _ _ (.int _ _) .nil)))
           match i, hb, hc with
           | 0, hb, hc => cases hb; cases hc; exact ⟨hg, zAb _⟩
           | i + 1, hb, hc => simp at hb,
          uniq := fun x y a H n ⟨h1, _⟩ ⟨k1, _⟩ => by
           rw [h1] at k1
           simp only [List.cons.injEq, Value.int.injEq, true_and, and_true] at k1
           have : x = y := by omega
           rw [this] }
noncomputable def ct_put32 : Ct Try.prog 0 := ct_newB 47 8 (by decide) 4294967296 by4 4 put32_fn
theorem rput32_fn (v : Nat) (h : v < 4294967296) : ∃ r, FnS Try.prog 0 49 [.int .i64 (v : Int)] .e 0 r ∧ ∃ H m wr, r = .ret (.tuple #[.slice (some ⟨7, 0, none⟩) 4 U, .int .i64 0]) H m wr ∧ H.get 7 = some (.cells ((by4 v).map byV) 5) := by
 have a1 : shrI .i64 (v : Int) (IntKind.i64.wrap (8 * 4)) = 0 := by
  show Int.fdiv (v : Int) (2 ^ 32) = 0
  rw [fdivP]; omega
 refine zBm mixed tbWr5r [] Try.func49 (c := bodyOf Try.f49) (by kernel_rfl) ?_
 refine ifK (fun g => by have g : (shrI .i64 (v : Int) (IntKind.i64.wrap (8 * 4)) != 0) = true := g; rw [a1] at g; cases g) (fun _ => ?_)
 refine And.intro (by kernel_rfl) ?_
 refine And.intro (by kernel_rfl) ?_
 refine And.intro (by kernel_rfl) ?_
 refine ⟨_, _, _, rfl, ?_⟩
 show some (AObj.cells [.int .u8 (IntKind.u8.wrap (Int.fdiv (v : Int) (2 ^ 24))), .int .u8 (IntKind.u8.wrap (Int.fdiv (v : Int) (2 ^ 16))), .int .u8 (IntKind.u8.wrap (Int.fdiv (v : Int) (2 ^ 8))), .int .u8 (IntKind.u8.wrap (Int.fdiv (v : Int) (2 ^ 0)))] _) = _
 rw [wrapD, wrapD, wrapD, wrapD]; rfl
noncomputable def ct_rput32 : Ct Try.prog 0 := ct_newB 49 7 (by decide) 4294967296 by4 4 rput32_fn
theorem rput16_fn (v : Int) : ∃ r, FnS Try.prog 0 45 [.int .i64 v] .e 0 r ∧ ∃ H m wr, (0 ≤ v ∧ v ≤ 65535 ∧ r = .ret (.tuple #[.slice (some ⟨3, 0, none⟩) 2 U, .int .i64 0]) H m wr ∧ H.get 3 = some (.cells ((by2 v.toNat).map byV) 5) ∨ ¬ (0 ≤ v ∧ v ≤ 65535) ∧ r = .ret (.tuple #[.slice none 0 0, .int .i64 5]) H m wr) := by
 have a1 : shrI .i64 v (IntKind.i64.wrap (8 * 2)) = Int.fdiv v 65536 := rfl
 refine zBm mixed tbWr5r [] Try.func45 (c := bodyOf Try.f45) (by kernel_rfl) ?_
 refine ifK (fun g => ?_) (fun g => ?_)
 ·have g := of_decide_eq_true g
  exact ⟨_, _, _, .inr ⟨by omega, rfl⟩⟩
 have g : ¬ v < 0 := of_decide_eq_false g
 obtain ⟨k, rfl⟩ : ∃ k : Nat, v = (k : Int) := ⟨v.toNat, by omega⟩
 have a2 : Int.fdiv (k : Int) 65536 = ((k / 65536 : Nat) : Int) := by have := fdivP k 16; simpa using this
 refine ifK (fun g2 => ?_) (fun g2 => ?_)
 ·have g2 : (shrI .i64 (k : Int) (IntKind.i64.wrap (8 * 2)) != 0) = true := g2
  rw [a1, a2] at g2
  have g2 : ((k / 65536 : Nat) : Int) ≠ 0 := by simpa using g2
  exact ⟨_, _, _, .inr ⟨by omega, rfl⟩⟩
 have g2 : (shrI .i64 (k : Int) (IntKind.i64.wrap (8 * 2)) != 0) = false := g2
 rw [a1, a2] at g2
 have g2 : ((k / 65536 : Nat) : Int) = 0 := by simpa using g2
 refine And.intro (by kernel_rfl) ?_
 refine ⟨_, _, _, .inl ⟨by omega, by omega, rfl, ?_⟩⟩
 show some (AObj.cells [.int .u8 (IntKind.u8.wrap (Int.fdiv (k : Int) (2 ^ 8))), .int .u8 (IntKind.u8.wrap (Int.fdiv (k : Int) (2 ^ 0)))] _) = _
 rw [wrapD, wrapD, lo8_eq]; rfl
noncomputable def zOv : Ct Try.prog 0 :=
 CtR.ct { f := 45, X := Int, pre := fun v a _ _ => a = [.int .i64 v],
          out := fun v H n => if 0 ≤ v ∧ v ≤ 65535 then .ret (.tuple #[.slice (some ⟨n, 0, none⟩) 2 U, .int .i64 0]) (layN H n [((by2 v.toNat).map byV, 5)]) (n + 1) [] else .ret (.tuple #[.slice none 0 0, .int .i64 5]) H n [],
          tr := fun v H n K => brK (decide (0 ≤ v ∧ v ≤ 65535)) (K (.ret (.tuple #[.slice (some ⟨n, 0, none⟩) 2 U, .int .i64 0]) (layN H n [((by2 v.toNat).map byV, 5)]) (n + 1) [])) (K (.ret (.tuple #[.slice none 0 0, .int .i64 5]) H n [])),
          trOk := fun v H n K h => by
           by_cases hv : 0 ≤ v ∧ v ≤ 65535
           ·rw [if_pos hv]; rw [decide_eq_true hv] at h; exact h
           ·rw [if_neg hv]; rw [decide_eq_false hv] at h; exact h,
          ok := fun v a H n h1 => by
           subst h1
           obtain ⟨r, hF, H', m, wr, ⟨p1, p2, rfl, hg⟩ | ⟨p1, rfl⟩⟩ := rput16_fn v
           ·rw [if_pos ⟨p1, p2⟩]
            refine zGj (fun n => .tuple #[.slice (some ⟨n, 0, none⟩) 2 U, .int .i64 0]) [] [3] [((by2 v.toNat).map byV, 5)] hF (fun k _ => Nat.zero_le k) (fun i j o hij hi => by simp at hi) (ArgOK.of (.cons _ _ _ _ (.int _ _) .nil)) (fun k o hk => by cases hk) (by decide) (fun x hx => by simp at hx; subst hx; exact ⟨Nat.zero_le _, by decide⟩) rfl (fun i b xs e hb hc => ?_)
             (fun n => .tuple _ _ (.cons _ _ _ _ (.sl _ _ _ _ _ (zDt 0 (by decide) (Nat.zero_le _) rfl)) (.cons _ _ _ _ (.int _ _) .nil)))
            match i, hb, hc with
            | 0, hb, hc => cases hb; cases hc; exact ⟨hg, zAb _⟩
            | i + 1, hb, hc => simp at hb
           ·rw [if_neg p1]
            exact zBa hF rfl rfl H n,
          uniq := fun x y a H n h1 k1 => by
           rw [h1] at k1
           simp only [List.cons.injEq, Value.int.injEq, true_and, and_true] at k1
           rw [k1] }
end Go.Proofs.Ytmpaeabkdhjamaa
namespace Go.Proofs.Ytmpaeabkdhjamaa
open Go Go.RowKit
theorem zTy (T : List (Bl × Nat)) (a : Nat) : ∀ (f : Nat) (t : Bl) (o : Nat), Nm t → (packN T a f t o).1.length ≤ t.length
 | 0, _, _, _ => Nat.zero_le _
 | f + 1, t, o, h => by
  unfold packN
  have hp := h.pos
  by_cases hc : (t.getD 0 0).toNat = 0
  ·simp only [hc, if_true]; exact hp
  ·simp only [hc, if_false]
   cases h with
   | root => exact absurd rfl hc
   | lab c x r h1 h2 hx hr =>
    have hrp := hr.pos
    cases hl : lookT T (c :: (x ++ r)) with
    | some k => simp; omega
    | none =>
     have e : (c :: (x ++ r)).drop (((c :: (x ++ r)).getD 0 0).toNat + 1) = r := by
      show (c :: (x ++ r)).drop (c.toNat + 1) = r
      rw [List.drop_succ_cons, ← hx, List.drop_left]
     simp only [e]
     have ih := zTy T a f r (o + ((c :: (x ++ r)).getD 0 0).toNat + 1) hr
     have e2 : ((c :: (x ++ r)).getD 0 0).toNat = c.toNat := rfl
     simp only [List.length_append, List.length_take, List.length_cons, e2] at ih ⊢
     omega
theorem wrN_le (a : Int) {T : List (Bl × Nat)} : ∀ (ps : List (Bs × Bool)) (out : Bl) (F : List (Bl × Nat)) (en : Nat), (wrN a T ps out F en).2.1.length ≤ out.length + sumL ps
 | [], _, _, _ => by simp [wrN, sumL]
 | (s, false) :: ps, out, F, en => by
  unfold wrN
  have h := wrN_le a (T := T) ps (out ++ s) F en
  simp only [sumL, List.flatMap_cons, List.length_append] at h ⊢; omega
 | (s, true) :: ps, out, F, en => by
  unfold wrN
  simp only []
  split
  ·exact Nat.zero_le _
  ·rename_i he
   obtain ⟨_, _, p4, p5⟩ := zCo (Decidable.not_not.1 he)
   have eb : bs (mkS s) = s := by simp [bs, mkS]
   rw [eb] at p4 p5
   have l1 := zTy (T ++ F) (IntKind.i64.wrap (a + (out.length : Int))).toNat s.length s 0 ((zAv s).1 p4).1
   have h := wrN_le a (T := T) ps (out ++ (packN (T ++ F) (IntKind.i64.wrap (a + (out.length : Int))).toNat s.length s 0).1) (F ++ (packN (T ++ F) (IntKind.i64.wrap (a + (out.length : Int))).toNat s.length s 0).2) ((IntKind.i64.wrap (a + (out.length : Int))).toNat + (packN (T ++ F) (IntKind.i64.wrap (a + (out.length : Int))).toNat s.length s 0).1.length)
   simp only [sumL, List.flatMap_cons, List.length_append] at h l1 ⊢; omega
theorem wrD_le {en : Nat} {T : List (Bl × Nat)} {a t : Int} {l : Bs} : (wrD en T a t l).2.1.length ≤ l.length := by
 unfold wrD
 split
 ·exact Nat.zero_le _
 ·rename_i h
  have h2 := (zKh (Decidable.not_not.1 h)).2.1
  have := wrN_le a (T := T) (pcsD t l) [] [] en
  simp only [List.length_nil, Nat.zero_add] at this
  omega
def askD (en : Nat) (T : List (Bl × Nat)) (a : Int) (n : ByteArray) (t c : Int) : Int × Bl × List (Bl × Nat) × Nat :=
 if (labels (bs n)).2 ≠ 0 then ((labels (bs n)).2, [], [], en)
 else if numB t 65535 && numB c 65535 then
  (if pnE en a n ≠ 0 then (pnE en a n, [], [], en)
   else let r := packN T a.toNat (bs n).length (bs n) 0
    (0, r.1 ++ by2 t.toNat ++ by2 c.toNat, r.2, a.toNat + r.1.length))
 else (5, [], [], en)
def recD (en : Nat) (T : List (Bl × Nat)) (a : Int) (x : RcX) : Int × Bl × List (Bl × Nat) × Nat :=
 if recC x ≠ 0 then (recC x, [], [], en)
 else let A := askD en T a x.n x.t x.c
  if A.1 ≠ 0 then (A.1, [], [], en)
  else let out := A.2.1 ++ by4 x.ttl.toNat
   let D := wrD A.2.2.2 (T ++ A.2.2.1) ((a.toNat + out.length + 2 : Nat) : Int) x.t (bs x.d)
   if D.1 ≠ 0 then (D.1, [], A.2.2.1 ++ D.2.2.1, D.2.2.2) else (0, out ++ by2 D.2.1.length ++ D.2.1, A.2.2.1 ++ D.2.2.1, D.2.2.2)
theorem zGx {en : Nat} {T : List (Bl × Nat)} {a : Int} {n : ByteArray} {t c : Int} (h : goodT T) : goodT (T ++ (askD en T a n t c).2.2.1) := by
 unfold askD
 split
 ·simpa using h
 ·split
  ·split
   ·simpa using h
   ·exact zBo h _ _ _ _
  ·simpa using h
theorem recD_good {en : Nat} {T : List (Bl × Nat)} {a : Int} {x : RcX} (h : goodT T) : goodT (T ++ (recD en T a x).2.2.1) := by
 unfold recD
 split
 ·simpa using h
 ·simp only []
  split
  ·simpa using h
  ·have h1 : goodT (T ++ (askD en T a x.n x.t x.c).2.2.1) := zGx h
   split
   ·show goodT (T ++ (_ ++ _)); rw [← List.append_assoc]; exact zUn h1
   ·show goodT (T ++ (_ ++ _)); rw [← List.append_assoc]; exact zUn h1
end Go.Proofs.Ytmpaeabkdhjamaa
namespace Go.Proofs.Ytmpaeabkdhjamaa
open Go Go.RowKit
theorem zCf (b : Nat) {o : Bl} (h : o ≠ []) : ovN b o = .slice (some ⟨b, 0, none⟩) o.length U := by
 cases o with
 | nil => exact absurd rfl h
 | cons u us => rfl
def PkFn (f : FuncId) (xs : List Value) (en : Nat) (T : List (Bl × Nat)) (ck : Nat) (R : Int × Bl × List (Bl × Nat) × Nat) : Prop :=
 ∃ r, FnS Try.prog 0 f (.pointer (some ⟨0, 0, none⟩) :: xs) (heap 2 [(0, .cells [.map (some 1), .int .i64 (en : Int)] 73), (1, .map (encT T) ck)]) 2 r ∧
  ∃ H m wr b, r = .ret (.tuple #[ovN b R.2.1, .int .i64 R.1]) H m wr ∧ (R.2.1 ≠ [] → 2 ≤ b ∧ b < JJ ∧ H.get b = some (.cells (R.2.1.map byV) 5)) ∧ H.get 0 = some (.cells [.map (some 1), .int .i64 (R.2.2.2 : Int)] 73) ∧ H.get 1 = some (.map (encT (T ++ R.2.2.1)) (ck + R.2.2.1.length))
structure PkY (Y : Type) where
 pb : Nat
 mb : Nat
 en : Nat
 T : List (Bl × Nat)
 ck : Nat
 y : Y
 e : Int
 o : Bl
 F : List (Bl × Nat)
 en' : Nat
noncomputable def ct_pk (f : FuncId) (Y : Type) (xs : Y → List Value) (inj : ∀ y y', xs y = xs y' → y = y') (pl : ∀ y, plainL (xs y) = true) (pre : Y → Prop) (D : Nat → List (Bl × Nat) → Y → Int × Bl × List (Bl × Nat) × Nat)
  (fn : ∀ (y : Y) (en : Nat) (T : List (Bl × Nat)) (ck : Nat), goodT T → pre y → PkFn f (xs y) en T ck (D en T y)) : Ct Try.prog 0 :=
 CtR.ct { f := f, X := PkY Y,
          pre := fun x as0 H _ => as0 = .pointer (some ⟨x.pb, 0, none⟩) :: xs x.y ∧ H.get x.pb = some (.cells [.map (some x.mb), .int .i64 (x.en : Int)] 73) ∧ H.get x.mb = some (.map (encT x.T) x.ck) ∧ goodT x.T ∧ pre x.y ∧ D x.en x.T x.y = (x.e, x.o, x.F, x.en'),
          out := fun x H n => packO x.pb x.mb x.T x.ck x.e x.o x.F x.en' H n,
          tr := fun x H n K => frcN x.pb fun pb => frcN x.mb fun mb => K (packO pb mb x.T x.ck x.e x.o x.F x.en' H n),
          trOk := fun x H n K h => zPs h,
          ok := fun x as0 H n ⟨h1, h2, h3, h4, h5, h6⟩ => by
           subst h1
           obtain ⟨pb, mb, en, T, ck, y, e, o, F, en'⟩ := x
           obtain ⟨q1, q2, q3⟩ := packB h2 h3
           have hfn := fn y en T ck h4 h5
           have h6 : D en T y = (e, o, F, en') := h6
           rw [h6] at hfn
           obtain ⟨r, hF, H', m, wr, b, rfl, g1, g2, g3⟩ := hfn
           have := zIl (n := n) (hF.wr [0, 1]) q1 q2 (.cons _ _ _ _ (.ptr _ _ _ rfl) (zDe (pl y))) h2 h3 (by simp) (by simp) g1 g2 g3 q3
           cases o <;> exact this,
          uniq := fun x y as0 H n ⟨h1, h2, h3, _, _, h6⟩ ⟨k1, k2, k3, _, _, k6⟩ => by
           obtain ⟨pb, mb, en, T, ck, z, e, o, F, en1⟩ := x
           obtain ⟨pb', mb', en', T', ck', z', e', o', F', en1'⟩ := y
           rw [h1] at k1
           simp only [List.cons.injEq, Value.pointer.injEq, Option.some.injEq, Addr.mk.injEq, and_true] at k1
           obtain ⟨rfl, k1⟩ := k1
           have := inj _ _ k1
           subst this
           obtain ⟨rfl, rfl, rfl, rfl⟩ := zPt h2 h3 k2 k3
           have := h6.symm.trans k6
           simp only [Prod.mk.injEq] at this
           obtain ⟨rfl, rfl, rfl, rfl⟩ := this
           rfl }
def RpFn0 (f : FuncId) (xs : List Value) (en : Nat) (R : Int × Bl × List (Bl × Nat) × Nat) : Prop :=
 ∃ r, FnS Try.prog 0 f (.pointer (some ⟨0, 0, none⟩) :: xs) (heap 1 [(0, .cells [.slice none 0 0, .int .i64 (en : Int)] 38)]) 1 r ∧
  ∃ H m wr b l, r = .ret (.tuple #[ovN b R.2.1, .int .i64 R.1]) H m wr ∧ (R.2.1 ≠ [] → 1 ≤ b ∧ b < JJ ∧ H.get b = some (.cells (R.2.1.map byV) 5)) ∧ (R.2.2.1 = [] ∧ H.get 0 = some (.cells [.slice none 0 0, .int .i64 (R.2.2.2 : Int)] 38) ∨ R.2.2.1 ≠ [] ∧ (1 ≤ l ∧ l < JJ ∧ (R.2.1 ≠ [] → l ≠ b)) ∧ H.get 0 = some (.cells [.slice (some ⟨l, 0, none⟩) R.2.2.1.length U, .int .i64 (R.2.2.2 : Int)] 38) ∧ H.get l = some (.cells (R.2.2.1.flatMap layT.g) 107))
def RpFn1 (f : FuncId) (xs : List Value) (en : Nat) (T : List (Bl × Nat)) (R : Int × Bl × List (Bl × Nat) × Nat) : Prop :=
 ∃ r, FnS Try.prog 0 f (.pointer (some ⟨0, 0, none⟩) :: xs) (heap 2 [(0, .cells [.slice (some ⟨1, 0, none⟩) T.length U, .int .i64 (en : Int)] 38), (1, .cells (T.flatMap layT.g) 107)]) 2 r ∧
  ∃ H m wr b l, r = .ret (.tuple #[ovN b R.2.1, .int .i64 R.1]) H m wr ∧ (R.2.1 ≠ [] → 2 ≤ b ∧ b < JJ ∧ H.get b = some (.cells (R.2.1.map byV) 5)) ∧ (R.2.2.1 = [] ∧ l = 1 ∨ R.2.2.1 ≠ [] ∧ 2 ≤ l ∧ l < JJ ∧ (R.2.1 ≠ [] → l ≠ b)) ∧ H.get 0 = some (.cells [.slice (some ⟨l, 0, none⟩) (T ++ R.2.2.1).length U, .int .i64 (R.2.2.2 : Int)] 38) ∧ H.get l = some (.cells ((T ++ R.2.2.1).flatMap layT.g) 107)
structure RpY (Y : Type) where
 pb : Nat
 v : Option Nat
 en : Nat
 T : List (Bl × Nat)
 y : Y
 e : Int
 o : Bl
 F : List (Bl × Nat)
 en' : Nat
noncomputable def ct_rpk (f : FuncId) (Y : Type) (xs : Y → List Value) (inj : ∀ y y', xs y = xs y' → y = y') (pl : ∀ y, plainL (xs y) = true) (pre : Y → Prop) (D : Nat → List (Bl × Nat) → Y → Int × Bl × List (Bl × Nat) × Nat) (bd : Nat)
  (fn0 : ∀ (y : Y) (en : Nat), pre y → RpFn0 f (xs y) en (D en [] y)) (fn1 : ∀ (y : Y) (en : Nat) (T : List (Bl × Nat)), goodT T → T ≠ [] → T.length ≤ bd → pre y → RpFn1 f (xs y) en T (D en T y)) : Ct Try.prog 0 :=
 CtR.ct { f := f, X := RpY Y,
          pre := fun x as0 H _ => as0 = .pointer (some ⟨x.pb, 0, none⟩) :: xs x.y ∧ H.get x.pb = some (.cells [rnV x.v x.T, .int .i64 (x.en : Int)] 38) ∧ rnAt x.v x.T H ∧ goodT x.T ∧ x.T.length ≤ bd ∧ pre x.y ∧ D x.en x.T x.y = (x.e, x.o, x.F, x.en'),
          out := fun x H n => rwO x.pb x.v x.T x.e x.o x.F x.en' H n,
          tr := fun x H n K => frcN x.pb fun pb => match x.v with | none => K (rwO pb none x.T x.e x.o x.F x.en' H n) | some b => frcN b fun b => K (rwO pb (some b) x.T x.e x.o x.F x.en' H n),
          trOk := fun x H n K h => rwO_frc h,
          ok := fun x as0 H n ⟨h1, h2, h3, h4, h5, h6, h7⟩ => by
           subst h1
           obtain ⟨pb, v, en, T, y, e, o, F, en'⟩ := x
           have h7 : D en T y = (e, o, F, en') := h7
           cases v with
           | none =>
            have h3 : T = [] := h3
            subst h3
            obtain ⟨q1, q2, q3⟩ := rpackB0 h2
            have hfn := fn0 y en h6
            rw [h7] at hfn
            obtain ⟨r, hF, H', m, wr, b, l, rfl, g1, g2⟩ := hfn
            have := zJr (n := n) (hF.wr [0]) q1 q2 (.cons _ _ _ _ (.ptr _ _ _ rfl) (zDe (pl y))) h2 (by simp) g1 rfl g2 q3
            cases F <;> cases o <;> exact this
           | some b =>
            obtain ⟨h3, hT0⟩ := h3
            obtain ⟨q1, q2, q3⟩ := rpackB h2 h3
            have hfn := fn1 y en T h4 hT0 h5 h6
            rw [h7] at hfn
            obtain ⟨r, hF, H', m, wr, b', l, rfl, g1, gl, g2, g3⟩ := hfn
            have := zJs (n := n) (hF.wr [0, 1]) q1 q2 (.cons _ _ _ _ (.ptr _ _ _ rfl) (zDe (pl y))) h2 h3 (by simp) (by simp) g1 gl g2 g3 q3
            cases F <;> cases o <;> exact this,
          uniq := fun x y as0 H n ⟨h1, h2, h3, _, _, _, h6⟩ ⟨k1, k2, k3, _, _, _, k6⟩ => by
           obtain ⟨pb, v, en, T, z, e, o, F, en1⟩ := x
           obtain ⟨pb', v', en', T', z', e', o', F', en1'⟩ := y
           rw [h1] at k1
           simp only [List.cons.injEq, Value.pointer.injEq, Option.some.injEq, Addr.mk.injEq, and_true] at k1
           obtain ⟨rfl, k1⟩ := k1
           have := inj _ _ k1
           subst this
           obtain ⟨rfl, rfl, rfl⟩ := rn_pre h2 k2 h3 k3
           have := h6.symm.trans k6
           simp only [Prod.mk.injEq] at this
           obtain ⟨rfl, rfl, rfl, rfl⟩ := this
           rfl }
end Go.Proofs.Ytmpaeabkdhjamaa
namespace Go.Proofs.Ytmpaeabkdhjamaa
open Go Go.RowKit
noncomputable def inl_twos : Ct Try.prog 0 := Ct.inl (tbOf mixed [zTc]) mixed [] 44 Try.f44 Try.func44 (bodyOf Try.f44) (by kernel_rfl)
noncomputable def inl_rnone : Ct Try.prog 0 := Ct.inl (tbOf mixed [zMz]) mixed [] 42 Try.f42 Try.func42 (bodyOf Try.f42) (by kernel_rfl)
noncomputable def tbWr7 : Tb Try.prog 0 := tbOf mixed [inl_rnone, zIx, zOt, zRf, zMz, inl_twos, ct_put32, ct_write]
theorem zCz {n m : Int} (h : numB n m = true) : ∃ k : Nat, n = (k : Int) ∧ (k : Int) ≤ m := by
 unfold numB at h
 have h := of_decide_eq_true h
 exact ⟨n.toNat, by omega, by omega⟩
theorem zUd (en : Nat) (T : List (Bl × Nat)) : pnR en T (-1) (mkS [0]) true [] [] := ⟨by rw [zUb]; rfl, fun h => by cases h⟩
structure AskY where
 a : Int
 n : ByteArray
 t : Int
 c : Int
def AskY.xs (y : AskY) : List Value := [.int .i64 y.a, .agg #[.string y.n, .int .i64 y.t, .int .i64 y.c]]
theorem AskY.inj (y z : AskY) (h : y.xs = z.xs) : y = z := by
 obtain ⟨a, n, t, c⟩ := y
 obtain ⟨a', n', t', c'⟩ := z
 simp only [AskY.xs, List.cons.injEq, Value.int.injEq, Value.agg.injEq, Array.mk.injEq, Value.string.injEq, true_and, and_true] at h
 obtain ⟨rfl, rfl, rfl, rfl⟩ := h; rfl
def AskY.D (en : Nat) (T : List (Bl × Nat)) (y : AskY) : Int × Bl × List (Bl × Nat) × Nat := askD en T y.a y.n y.t y.c
theorem ask_fn (y : AskY) (en : Nat) (T : List (Bl × Nat)) (ck : Nat) (hT : goodT T) (hs : shortB y.n = true) : PkFn 19 y.xs en T ck (y.D en T) := by
 obtain ⟨a, n, t, c⟩ := y
 have h1s : (Try.prog.types[5]).size = 1 := by kernel_rfl
 have hby : (Try.prog.types[5]).bytes = 1 := by kernel_rfl
 refine zBm mixed tbWr7 [1] Try.func19 (c := bodyOf Try.f19) (by kernel_rfl) ?_
 refine Exists.intro (⟨0, 1, en, T, ck, -1, mkS [0], true, [], []⟩ : PkX) (And.intro ⟨rfl, rfl, (show Tr.get _ 1 = some (AObj.map (encT T) ck) from rfl), hT, rfl, zUd en T⟩ ?_)
 refine And.intro hs ?_
 unfold AskY.D askD
 refine ifK (fun g => ?_) (fun g => ?_)
 ·have g : (labels (bs n)).2 ≠ 0 := by simpa using g
  rw [if_pos g]
  exact ⟨_, _, _, 0, rfl, fun h => absurd rfl h, rfl, by rw [List.append_nil]; rfl⟩
 have g : ¬ (labels (bs n)).2 ≠ 0 := by simpa using g
 rw [if_neg g]
 refine ifK (fun g2 => ?_) (fun g2 => ?_)
 ·rw [show numB t 65535 = false by simpa using g2]
  exact ⟨_, _, _, 0, rfl, fun h => absurd rfl h, rfl, by show some (AObj.map (encT T) ck) = _; simp⟩
 have k2 : numB t 65535 = true := by simpa using g2
 rw [k2]
 refine ifK (fun g3 => ?_) (fun g3 => ?_)
 ·rw [show numB c 65535 = false by simpa using g3]
  exact ⟨_, _, _, 0, rfl, fun h => absurd rfl h, rfl, by show some (AObj.map (encT T) ck) = _; simp⟩
 have k3 : numB c 65535 = true := by simpa using g3
 clear g2 g3
 rw [k3, show (true && true) = true from rfl, if_pos rfl]
 by_cases he : pnE en a n ≠ 0
 ·rw [if_pos he]
  refine Exists.intro (⟨0, 1, en, T, ck, a, n, true, [], []⟩ : PkX) (And.intro ⟨rfl, rfl, (show Tr.get _ 1 = some (AObj.map (encT T) ck) from rfl), hT, hs, (decide_eq_true he).symm, fun h => by cases h⟩ ?_)
  refine ifK (fun _ => ?_) (fun g => absurd (show pnE en a n = 0 by simpa using g) he)
  exact ⟨_, _, _, 0, rfl, fun h => absurd rfl h, rfl, by show some (AObj.map (encT T) ck) = _; simp⟩
 ·rw [if_neg he]
  have he0 : pnE en a n = 0 := Decidable.not_not.1 he
  obtain ⟨⟨p1, p2⟩, p3, p4, p5⟩ := zCo he0
  obtain ⟨r, hr⟩ : ∃ r, packN T a.toNat (bs n).length (bs n) 0 = r := ⟨_, rfl⟩
  have hl1 := zAy T a.toNat (bs n).length (bs n) 0
  rw [hr] at hl1 ⊢
  obtain ⟨o, F⟩ := r
  have hl1 : o.length ≤ 257 := by have : o.length ≤ (bs n).length + 2 := hl1; omega
  obtain ⟨t, rfl, ht⟩ := zCz k2
  obtain ⟨c, rfl, hc⟩ := zCz k3
  refine Exists.intro (⟨0, 1, en, T, ck, a, n, false, o, F⟩ : PkX) (And.intro ⟨rfl, rfl, (show Tr.get _ 1 = some (AObj.map (encT T) ck) from rfl), hT, hs, (decide_eq_false he).symm, fun _ => hr⟩ ?_)
  refine Exists.intro t (And.intro ⟨rfl, by omega⟩ ?_)
  refine Exists.intro c (And.intro ⟨rfl, by omega⟩ ?_)
  refine And.intro (by kernel_rfl) ?_
  refine And.intro (by rw [h1s, hby]; simp only [Bool.and_eq_true, decide_eq_true_eq]; exact ⟨⟨⟨⟨⟨⟨rfl, rfl⟩, Nat.ble_eq_true_of_le (by simp)⟩, rfl⟩, (by omega)⟩, (by omega)⟩, Nat.ble_eq_true_of_le (by simp)⟩) ?_
  have hne : o ++ by2 t ++ by2 c ≠ [] := by simp [by2]
  have hv : Value.slice (some ⟨9, 0, none⟩) (o.length + (2 + 2)) U = ovN 9 (o ++ by2 t ++ by2 c) := by rw [zCf 9 hne]; simp [by2]
  have hc : (List.take (o.length * 1) (o.map byV) ++ [byV (hi8 t), byV (lo8 t), byV (hi8 c), byV (lo8 c)]) = (o ++ by2 t ++ by2 c).map byV := by rw [Nat.mul_one, List.take_of_length_le (by simp)]; simp [by2]
  refine ⟨_, _, _, 9, congrArg (fun v => Res.ret (.tuple #[v, .int .i64 0]) _ _ _) hv, fun _ => ⟨by decide, by decide, ?_⟩, rfl, rfl⟩
  exact congrArg (fun l => some (AObj.cells l _)) hc
structure WrtY where
 a : Int
 x : RcX
def WrtY.xs (y : WrtY) : List Value := [.int .i64 y.a, y.x.v]
theorem WrtY.inj (y z : WrtY) (h : y.xs = z.xs) : y = z := by
 obtain ⟨a, n, t, c, w, d⟩ := y
 obtain ⟨a', n', t', c', w', d'⟩ := z
 simp only [WrtY.xs, RcX.v, List.cons.injEq, Value.int.injEq, Value.agg.injEq, Array.mk.injEq, Value.string.injEq, true_and, and_true] at h
 obtain ⟨rfl, rfl, rfl, rfl, rfl, rfl⟩ := h; rfl
def WrtY.D (en : Nat) (T : List (Bl × Nat)) (y : WrtY) : Int × Bl × List (Bl × Nat) × Nat := recD en T y.a y.x
theorem recD_pn {en : Nat} {T : List (Bl × Nat)} {a : Int} {x : RcX} (h : recC x = 0) (he : pnE en a x.n ≠ 0) : recD en T a x = (pnE en a x.n, [], [], en) := by
 obtain ⟨z1, z2, z3, z4, z5⟩ := zFn h
 unfold recD askD
 rw [if_neg (not_not_intro h), if_neg (not_not_intro z1), z2, z3, show (true && true) = true from rfl, if_pos rfl, if_pos he]
 simp only []
 rw [if_pos he]
theorem recD_ok {en : Nat} {T : List (Bl × Nat)} {k : Nat} {x : RcX} {o : Bl} {F : List (Bl × Nat)} (h : recC x = 0) (he : pnE en k x.n = 0) (hr : packN T k (bs x.n).length (bs x.n) 0 = (o, F)) {R : Int × Bl × List (Bl × Nat) × Nat} (hR : wrD (k + o.length) (T ++ F) ((k + (o.length + 8) + 2 : Nat) : Int) x.t (bs x.d) = R) :
  recD en T k x = if R.1 ≠ 0 then (R.1, [], F ++ R.2.2.1, R.2.2.2) else (0, (o ++ by2 x.t.toNat ++ by2 x.c.toNat ++ by4 x.ttl.toNat) ++ by2 R.2.1.length ++ R.2.1, F ++ R.2.2.1, R.2.2.2) := by
 obtain ⟨z1, z2, z3, z4, z5⟩ := zFn h
 have hl : (o ++ by2 x.t.toNat ++ by2 x.c.toNat ++ by4 x.ttl.toNat).length = o.length + 8 := by simp [by2, by4]
 unfold recD askD
 rw [if_neg (not_not_intro h), if_neg (not_not_intro z1), z2, z3, show (true && true) = true from rfl, if_pos rfl, if_neg (not_not_intro he), Int.toNat_natCast, hr]
 simp only []
 rw [if_neg (not_not_intro rfl), hl, hR]
theorem wrN_e (a : Int) {T : List (Bl × Nat)} : ∀ (ps : List (Bs × Bool)) (out : Bl) (F : List (Bl × Nat)) (en : Nat), (wrN a T ps out F en).1 ≠ 0 → (wrN a T ps out F en).2.1 = []
 | [], _, _, _ => fun h => absurd rfl h
 | (s, false) :: ps, out, F, en => by unfold wrN; exact wrN_e a ps _ _ _
 | (s, true) :: ps, out, F, en => by
  unfold wrN
  simp only []
  split
  ·exact fun _ => rfl
  ·exact wrN_e a ps _ _ _
theorem wrD_e {en : Nat} {T : List (Bl × Nat)} {a t : Int} {l : Bs} : (wrD en T a t l).1 ≠ 0 → (wrD en T a t l).2.1 = [] := by
 unfold wrD
 split
 ·exact fun _ => rfl
 ·exact wrN_e _ _ _ _ _
theorem recw_fn (y : WrtY) (en : Nat) (T : List (Bl × Nat)) (ck : Nat) (hT : goodT T) (hs : y.x.ok = true) : PkFn 21 y.xs en T ck (y.D en T) := by
 obtain ⟨a, x⟩ := y
 have hs : x.ok = true := hs
 have h1s : (Try.prog.types[5]).size = 1 := by kernel_rfl
 have hby : (Try.prog.types[5]).bytes = 1 := by kernel_rfl
 obtain ⟨hn, hd⟩ := RcX.ok1 hs
 have hsh : shortB x.n = true := zBq (by omega)
 have hdh : shortB x.d = true := zBq (by omega)
 unfold WrtY.D
 obtain ⟨n, t, c, w, d⟩ := x
 have hd : (bs d).length ≤ 100000000 := hd
 refine zBm mixed tbWr7 [1, 12] Try.func21 (c := bodyOf Try.f21) (by kernel_rfl) ?_
 refine Exists.intro (⟨0, 1, en, T, ck, -1, mkS [0], true, [], []⟩ : PkX) (And.intro ⟨rfl, rfl, (show Tr.get _ 1 = some (AObj.map (encT T) ck) from rfl), hT, rfl, zUd en T⟩ ?_)
 refine And.intro hs ?_
 refine ifK (fun g => ?_) (fun g => ?_)
 ·have g : recC ⟨n, t, c, w, d⟩ ≠ 0 := by simpa using g
  unfold recD
  rw [if_pos g]
  exact ⟨_, _, _, 0, rfl, fun h => absurd rfl h, rfl, by show some (AObj.map (encT T) ck) = _; simp⟩
 have gz : recC ⟨n, t, c, w, d⟩ = 0 := by simpa using g
 clear g
 by_cases he : pnE en a n ≠ 0
 ·refine Exists.intro (⟨0, 1, en, T, ck, a, n, true, [], []⟩ : PkX) (And.intro ⟨rfl, rfl, (show Tr.get _ 1 = some (AObj.map (encT T) ck) from rfl), hT, hsh, (decide_eq_true he).symm, fun h => by cases h⟩ ?_)
  refine ifK (fun _ => ?_) (fun g => absurd (show pnE en a n = 0 by simpa using g) he)
  have e1 : recD en T a ⟨n, t, c, w, d⟩ = _ := recD_pn gz he
  simp only [e1]
  exact ⟨_, _, _, 0, rfl, fun h => absurd rfl h, rfl, by show some (AObj.map (encT T) ck) = _; simp⟩
 have he0 : pnE en a n = 0 := Decidable.not_not.1 he
 obtain ⟨⟨p1, p2⟩, p3, p4, p5⟩ := zCo he0
 obtain ⟨k, rfl⟩ : ∃ k : Nat, a = (k : Int) := ⟨a.toNat, by omega⟩
 obtain ⟨r, hr⟩ : ∃ r, packN T k (bs n).length (bs n) 0 = r := ⟨_, rfl⟩
 have hl1 := zAy T k (bs n).length (bs n) 0
 have hgd := zBo hT k (bs n).length (bs n) 0
 rw [hr] at hl1 hgd
 obtain ⟨o, F⟩ := r
 have hl1 : o.length ≤ 257 := by have : o.length ≤ (bs n).length + 2 := hl1; omega
 obtain ⟨R, hR⟩ : ∃ R, wrD (k + o.length) (T ++ F) ((k + (o.length + 8) + 2 : Nat) : Int) t (bs d) = R := ⟨_, rfl⟩
 have e1 : recD en T k ⟨n, t, c, w, d⟩ = _ := recD_ok gz he0 hr hR
 simp only [e1]
 obtain ⟨z1, z2, z3, z4, z5⟩ := zFn gz
 obtain ⟨t, rfl, ht⟩ := zCz z2
 obtain ⟨c, rfl, hc⟩ := zCz z3
 obtain ⟨w, rfl, hw⟩ := zCz z4
 have hle := wrD_le (en := k + o.length) (T := T ++ F) (a := ((k + (o.length + 8) + 2 : Nat) : Int)) (t := (t : Int)) (l := bs d)
 have hld := (zCi z5).2.2.1
 rw [hR] at hle
 obtain ⟨e2, o2, F2, en2⟩ := R
 have hl2 : o2.length ≤ 65535 := Nat.le_trans hle hld
 clear hle
 refine Exists.intro (⟨0, 1, en, T, ck, k, n, false, o, F⟩ : PkX) (And.intro ⟨rfl, rfl, (show Tr.get _ 1 = some (AObj.map (encT T) ck) from rfl), hT, hsh, (decide_eq_false he).symm, fun _ => hr⟩ ?_)
 refine Exists.intro w (And.intro ⟨rfl, by omega⟩ ?_)
 refine Exists.intro t (And.intro ⟨rfl, by omega⟩ ?_)
 refine Exists.intro c (And.intro ⟨rfl, by omega⟩ ?_)
 refine And.intro (by kernel_rfl) ?_
 refine And.intro (by rw [h1s, hby]; simp only [Bool.and_eq_true, decide_eq_true_eq]; exact ⟨⟨⟨⟨⟨⟨rfl, rfl⟩, Nat.ble_eq_true_of_le (by simp)⟩, rfl⟩, (by omega)⟩, (by omega)⟩, Nat.ble_eq_true_of_le (by simp)⟩) ?_
 refine And.intro (by rw [h1s, hby]; simp only [Bool.and_eq_true, decide_eq_true_eq]; exact ⟨⟨⟨⟨⟨⟨rfl, rfl⟩, Nat.ble_eq_true_of_le (by simp)⟩, rfl⟩, (by omega)⟩, (by omega)⟩, Nat.ble_eq_true_of_le (by simp [by4])⟩) ?_
 have hat : IntKind.i64.wrap (IntKind.i64.wrap ((k : Int) + ((o.length + (2 + 2) + 4 : Nat) : Int)) + 2) = ((k + (o.length + 8) + 2 : Nat) : Int) := by
  have i1 : IntKind.i64.wrap ((k : Int) + ((o.length + (2 + 2) + 4 : Nat) : Int)) = ((k + (o.length + 8) : Nat) : Int) := by rw [wrapN (by omega) (by omega)]; omega
  rw [i1, wrapN (by omega) (by omega)]; omega
 have hm : (AObj.map (encT ((T ++ F) ++ F2)) (ck + F.length + F2.length)) = AObj.map (encT (T ++ (F ++ F2))) (ck + (F ++ F2).length) := by rw [List.append_assoc, List.length_append, Nat.add_assoc]
 refine Exists.intro (⟨0, 1, k + o.length, T ++ F, ck + F.length, ((k + (o.length + 8) + 2 : Nat) : Int), t, d, e2, o2, F2, en2⟩ : WrX) (And.intro ⟨by rw [← hat] <;> rfl, rfl, (show Tr.get _ 1 = some (AObj.map (encT (T ++ F)) (ck + F.length)) from rfl), hgd, hdh, hR⟩ ?_)
 cases o2 with
 | nil =>
  refine ifK (fun h2 => ?_) (fun h2 => ?_)
  ·have h2 : e2 ≠ 0 := by simpa using h2
   rw [if_pos h2]
   exact ⟨_, _, _, 0, rfl, fun h => absurd rfl h, rfl, congrArg some hm⟩
  have h2 : e2 = 0 := by simpa using h2
  subst h2
  rw [if_neg (not_not_intro rfl)]
  refine Exists.intro 0 (And.intro ⟨rfl, by decide⟩ ?_)
  refine And.intro (by rw [h1s, hby]; simp only [Bool.and_eq_true, decide_eq_true_eq]; exact ⟨⟨⟨⟨⟨⟨rfl, rfl⟩, Nat.ble_eq_true_of_le (by simp [by4] <;> omega)⟩, rfl⟩, (by simp <;> omega)⟩, (by simp <;> omega)⟩, Nat.ble_eq_true_of_le (by simp [by4] <;> omega)⟩) ?_
  have hne : (o ++ by2 t ++ by2 c ++ by4 w) ++ by2 0 ++ [] ≠ [] := by simp [by2]
  have hv : Value.slice (some ⟨15, 0, none⟩) (o.length + (2 + 2) + 4 + 2) U = ovN 15 ((o ++ by2 t ++ by2 c ++ by4 w) ++ by2 0 ++ []) := by rw [zCf 15 hne]; simp [by2, by4]
  refine ⟨_, _, _, 15, congrArg (fun v => Res.ret (.tuple #[v, .int .i64 0]) _ _ _) hv, fun _ => ⟨by decide, by decide, ?_⟩, rfl, congrArg some hm⟩
  refine (show some (AObj.cells _ _) = some (AObj.cells _ _) from congrArg (fun l => some (AObj.cells l _)) ?_)
  simp [h1s, by2, by4, List.take_of_length_le, List.take_append]
 | cons u us =>
  have h2 : e2 = 0 := by
   have := wrD_e (en := k + o.length) (T := T ++ F) (a := ((k + (o.length + 8) + 2 : Nat) : Int)) (t := (t : Int)) (l := bs d)
   rw [hR] at this
   exact Decidable.byContradiction fun h => by cases this h
  subst h2
  rw [if_neg (not_not_intro rfl)]
  have hle : us.length + 1 ≤ 65535 := hl2
  refine Exists.intro (us.length + 1) (And.intro ⟨rfl, by omega⟩ ?_)
  refine And.intro (by rw [h1s, hby]; simp only [Bool.and_eq_true, decide_eq_true_eq]; exact ⟨⟨⟨⟨⟨⟨rfl, rfl⟩, Nat.ble_eq_true_of_le (by simp [by4] <;> omega)⟩, rfl⟩, (by simp <;> omega)⟩, (by simp <;> omega)⟩, Nat.ble_eq_true_of_le (by simp [by4] <;> omega)⟩) ?_
  refine Exists.intro ((u :: us).map byV) (And.intro (zAp (l := u :: us) h1s rfl) ?_)
  have hone : oneL ((u :: us).map byV) = true := oneB _
  refine And.intro (by rw [h1s, hby]; simp only [Bool.and_eq_true, decide_eq_true_eq]; exact ⟨⟨⟨⟨⟨⟨rfl, rfl⟩, Nat.ble_eq_true_of_le (by simp [by4] <;> omega)⟩, hone⟩, (by simp <;> omega)⟩, (by simp <;> omega)⟩, Nat.ble_eq_true_of_le (by simp [by4] <;> omega)⟩) ?_
  have hne : (o ++ by2 t ++ by2 c ++ by4 w) ++ by2 (us.length + 1) ++ u :: us ≠ [] := by simp [by2]
  have hv : Value.slice (some ⟨17, 0, none⟩) (o.length + (2 + 2) + 4 + 2 + (us.length + 1)) U = ovN 17 ((o ++ by2 t ++ by2 c ++ by4 w) ++ by2 (us.length + 1) ++ u :: us) := by rw [zCf 17 hne]; simp [by2, by4]; omega
  refine ⟨_, _, _, 17, congrArg (fun v => Res.ret (.tuple #[v, .int .i64 0]) _ _ _) hv, fun _ => ⟨by decide, by decide, ?_⟩, rfl, congrArg some hm⟩
  refine (show some (AObj.cells _ _) = some (AObj.cells _ _) from congrArg (fun l => some (AObj.cells l _)) ?_)
  simp [h1s, by2, by4, List.take_of_length_le, List.take_append]
end Go.Proofs.Ytmpaeabkdhjamaa
namespace Go.Proofs.Ytmpaeabkdhjamaa
open Go Go.RowKit
noncomputable def tbWr8 : Tb Try.prog 0 := tbOf mixed [zGz, zOv, zTd]
theorem rask0_fn (y : AskY) (en : Nat) (hs : shortB y.n = true) : RpFn0 20 y.xs en (y.D en []) := by
 obtain ⟨a, n, t, c⟩ := y
 have hs : shortB n = true := hs
 have h1s : (Try.prog.types[5]).size = 1 := by kernel_rfl
 have hby : (Try.prog.types[5]).bytes = 1 := by kernel_rfl
 refine zBm mixed tbWr8 [4] Try.func20 (c := bodyOf Try.f20) (by kernel_rfl) ?_
 refine And.intro hs ?_
 unfold AskY.D askD
 refine ifK (fun g => ?_) (fun g => ?_)
 ·have g : (labels (bs n)).2 ≠ 0 := by simpa using g
  rw [if_pos g]
  exact ⟨_, _, _, 0, 1, rfl, fun h => absurd rfl h, .inl ⟨rfl, rfl⟩⟩
 have gz : ¬ (labels (bs n)).2 ≠ 0 := by simpa using g
 clear g
 rw [if_neg gz]
 refine Exists.intro t (And.intro rfl ?_)
 refine ifK (fun g2 => ?_) (fun g2 => ?_)
 rotate_left
 ·rw [show numB t 65535 = false from g2]
  refine Exists.intro c (And.intro rfl ?_)
  refine ifK (fun g3 => ?_) (fun g3 => ?_)
  ·exact ⟨_, _, _, 0, 1, rfl, fun h => absurd rfl h, .inl ⟨rfl, rfl⟩⟩
  ·exact ⟨_, _, _, 0, 1, rfl, fun h => absurd rfl h, .inl ⟨rfl, rfl⟩⟩
 have k2 : numB t 65535 = true := g2
 clear g2
 rw [k2]
 refine Exists.intro c (And.intro rfl ?_)
 refine ifK (fun g3 => ?_) (fun g3 => ?_)
 rotate_left
 ·rw [show numB c 65535 = false from g3]
  exact ⟨_, _, _, 0, 1, rfl, fun h => absurd rfl h, .inl ⟨rfl, rfl⟩⟩
 have k3 : numB c 65535 = true := g3
 clear g3
 rw [k3, show (true && true) = true from rfl, if_pos rfl]
 by_cases he : pnE en a n ≠ 0
 ·rw [if_pos he]
  refine Exists.intro (⟨0, none, en, [], a, n, true, [], []⟩ : RnX) (And.intro ⟨rfl, (show Tr.get _ 0 = some (AObj.cells [.slice none 0 0, .int .i64 (en : Int)] _) from rfl), rfl, ⟨List.nodup_nil, fun p hp => by cases hp⟩, (Nat.zero_le _), hs, (decide_eq_true he).symm, fun h => by cases h⟩ ?_)
  refine ifK (fun _ => ?_) (fun g => absurd (show pnE en a n = 0 by simpa using g) he)
  exact ⟨_, _, _, 0, 1, rfl, fun h => absurd rfl h, .inl ⟨rfl, rfl⟩⟩
 rw [if_neg he]
 have he0 : pnE en a n = 0 := Decidable.not_not.1 he
 obtain ⟨⟨p1, p2⟩, p3, p4, p5⟩ := zCo he0
 have hpos := ((zAv (bs n)).1 p4).1.pos
 obtain ⟨r, hr⟩ : ∃ r, packN [] a.toNat (bs n).length (bs n) 0 = r := ⟨_, rfl⟩
 have hl1 := zAy [] a.toNat (bs n).length (bs n) 0
 have hne := zCj [] a.toNat (bs n).length (bs n) 0 hpos
 rw [hr] at hl1 hne
 simp only [hr]
 obtain ⟨o, F⟩ := r
 have hl1 : o.length ≤ 257 := by have : o.length ≤ (bs n).length + 2 := hl1; omega
 obtain ⟨t, rfl, ht⟩ := zCz k2
 obtain ⟨c, rfl, hc⟩ := zCz k3
 cases o with
 | nil => exact absurd rfl hne
 | cons v vs =>
 have hvl : vs.length + 1 ≤ 257 := hl1
 have hone : oneL ((v :: vs).map byV) = true := oneB _
 have hnv : (v :: vs) ++ by2 t ++ by2 c ≠ [] := by simp
 cases F with
 | nil =>
  refine Exists.intro (⟨0, none, en, [], a, n, false, v :: vs, []⟩ : RnX) (And.intro ⟨rfl, (show Tr.get _ 0 = some (AObj.cells [.slice none 0 0, .int .i64 (en : Int)] _) from rfl), rfl, ⟨List.nodup_nil, fun p hp => by cases hp⟩, (Nat.zero_le _), hs, (decide_eq_false he).symm, fun _ => hr⟩ ?_)
  refine Exists.intro ((v :: vs).map byV) (And.intro (zAp (l := v :: vs) h1s rfl) ?_)
  refine And.intro (by rw [hby]; simp only [Bool.and_eq_true]; exact ⟨decide_eq_true (by simp; omega), decide_eq_true (by simp; omega)⟩) ?_
  refine And.intro (by rw [h1s, hby]; simp only [Bool.and_eq_true, decide_eq_true_eq]; exact ⟨⟨⟨⟨⟨⟨rfl, rfl⟩, Nat.ble_eq_true_of_le (by simp [by2] <;> omega)⟩, rfl⟩, (by simp <;> omega)⟩, (by simp <;> omega)⟩, Nat.ble_eq_true_of_le (by simp [by2] <;> omega)⟩) ?_
  refine And.intro (by rw [h1s, hby]; simp only [Bool.and_eq_true, decide_eq_true_eq]; exact ⟨⟨⟨⟨⟨⟨rfl, rfl⟩, Nat.ble_eq_true_of_le (by simp [by2] <;> omega)⟩, rfl⟩, (by simp <;> omega)⟩, (by simp <;> omega)⟩, Nat.ble_eq_true_of_le (by simp [by2] <;> omega)⟩) ?_
  have hv : Value.slice (some ⟨8, 0, none⟩) (0 + (v :: vs).length + 2 + 2) U = ovN 8 ((v :: vs) ++ by2 t ++ by2 c) := by rw [zCf 8 hnv]; simp [by2]
  refine ⟨_, _, _, 8, 1, congrArg (fun v => Res.ret (.tuple #[v, .int .i64 0]) _ _ _) hv, fun _ => ⟨by decide, by decide, ?_⟩, .inl ⟨rfl, rfl⟩⟩
  refine (show some (AObj.cells _ _) = some (AObj.cells _ _) from congrArg (fun l => some (AObj.cells l _)) ?_)
  simp [h1s, by2, List.take_of_length_le, List.take_append]
 | cons p F =>
  refine Exists.intro (⟨0, none, en, [], a, n, false, v :: vs, p :: F⟩ : RnX) (And.intro ⟨rfl, (show Tr.get _ 0 = some (AObj.cells [.slice none 0 0, .int .i64 (en : Int)] _) from rfl), rfl, ⟨List.nodup_nil, fun p hp => by cases hp⟩, (Nat.zero_le _), hs, (decide_eq_false he).symm, fun _ => hr⟩ ?_)
  refine Exists.intro ((v :: vs).map byV) (And.intro (zAp (l := v :: vs) h1s rfl) ?_)
  refine And.intro (by rw [hby]; simp only [Bool.and_eq_true]; exact ⟨decide_eq_true (by simp; omega), decide_eq_true (by simp; omega)⟩) ?_
  refine And.intro (by rw [h1s, hby]; simp only [Bool.and_eq_true, decide_eq_true_eq]; exact ⟨⟨⟨⟨⟨⟨rfl, rfl⟩, Nat.ble_eq_true_of_le (by simp [by2] <;> omega)⟩, rfl⟩, (by simp <;> omega)⟩, (by simp <;> omega)⟩, Nat.ble_eq_true_of_le (by simp [by2] <;> omega)⟩) ?_
  refine And.intro (by rw [h1s, hby]; simp only [Bool.and_eq_true, decide_eq_true_eq]; exact ⟨⟨⟨⟨⟨⟨rfl, rfl⟩, Nat.ble_eq_true_of_le (by simp [by2] <;> omega)⟩, rfl⟩, (by simp <;> omega)⟩, (by simp <;> omega)⟩, Nat.ble_eq_true_of_le (by simp [by2] <;> omega)⟩) ?_
  have hv : Value.slice (some ⟨9, 0, none⟩) (0 + (v :: vs).length + 2 + 2) U = ovN 9 ((v :: vs) ++ by2 t ++ by2 c) := by rw [zCf 9 hnv]; simp [by2]
  refine ⟨_, _, _, 9, 5, congrArg (fun v => Res.ret (.tuple #[v, .int .i64 0]) _ _ _) hv, fun _ => ⟨by decide, by decide, ?_⟩, .inr ⟨List.cons_ne_nil _ _, ⟨by decide, by decide, fun _ => by decide⟩, rfl, rfl⟩⟩
  refine (show some (AObj.cells _ _) = some (AObj.cells _ _) from congrArg (fun l => some (AObj.cells l _)) ?_)
  simp [h1s, by2, List.take_of_length_le, List.take_append]
theorem rask1_fn (y : AskY) (en : Nat) (T : List (Bl × Nat)) (hT : goodT T) (hT0 : T ≠ []) (hTl : T.length ≤ 900000000) (hs : shortB y.n = true) : RpFn1 20 y.xs en T (y.D en T) := by
 obtain ⟨a, n, t, c⟩ := y
 have hs : shortB n = true := hs
 have h1s : (Try.prog.types[5]).size = 1 := by kernel_rfl
 have hby : (Try.prog.types[5]).bytes = 1 := by kernel_rfl
 refine zBm mixed tbWr8 [5] Try.func20 (c := bodyOf Try.f20) (by kernel_rfl) ?_
 refine And.intro hs ?_
 unfold AskY.D askD
 refine ifK (fun g => ?_) (fun g => ?_)
 ·have g : (labels (bs n)).2 ≠ 0 := by simpa using g
  rw [if_pos g]
  exact ⟨_, _, _, 0, 1, rfl, fun h => absurd rfl h, .inl ⟨rfl, rfl⟩, by show some (AObj.cells _ _) = _; simp, by show some (AObj.cells _ _) = _; simp⟩
 have gz : ¬ (labels (bs n)).2 ≠ 0 := by simpa using g
 clear g
 rw [if_neg gz]
 refine Exists.intro t (And.intro rfl ?_)
 refine ifK (fun g2 => ?_) (fun g2 => ?_)
 rotate_left
 ·rw [show numB t 65535 = false from g2]
  refine Exists.intro c (And.intro rfl ?_)
  refine ifK (fun g3 => ?_) (fun g3 => ?_)
  ·exact ⟨_, _, _, 0, 1, rfl, fun h => absurd rfl h, .inl ⟨rfl, rfl⟩, by show some (AObj.cells _ _) = _; simp, by show some (AObj.cells _ _) = _; simp⟩
  ·exact ⟨_, _, _, 0, 1, rfl, fun h => absurd rfl h, .inl ⟨rfl, rfl⟩, by show some (AObj.cells _ _) = _; simp, by show some (AObj.cells _ _) = _; simp⟩
 have k2 : numB t 65535 = true := g2
 clear g2
 rw [k2]
 refine Exists.intro c (And.intro rfl ?_)
 refine ifK (fun g3 => ?_) (fun g3 => ?_)
 rotate_left
 ·rw [show numB c 65535 = false from g3]
  exact ⟨_, _, _, 0, 1, rfl, fun h => absurd rfl h, .inl ⟨rfl, rfl⟩, by show some (AObj.cells _ _) = _; simp, by show some (AObj.cells _ _) = _; simp⟩
 have k3 : numB c 65535 = true := g3
 clear g3
 rw [k3, show (true && true) = true from rfl, if_pos rfl]
 by_cases he : pnE en a n ≠ 0
 ·rw [if_pos he]
  refine Exists.intro (⟨0, some 1, en, T, a, n, true, [], []⟩ : RnX) (And.intro ⟨rfl, (show Tr.get _ 0 = some (AObj.cells [.slice (some ⟨1, 0, none⟩) T.length U, .int .i64 (en : Int)] _) from rfl), ⟨(show Tr.get _ 1 = some (AObj.cells (T.flatMap layT.g) _) from rfl), hT0⟩, hT, (Nat.le_trans hTl (by decide)), hs, (decide_eq_true he).symm, fun h => by cases h⟩ ?_)
  refine ifK (fun _ => ?_) (fun g => absurd (show pnE en a n = 0 by simpa using g) he)
  exact ⟨_, _, _, 0, 1, rfl, fun h => absurd rfl h, .inl ⟨rfl, rfl⟩, by show some (AObj.cells _ _) = _; simp, by show some (AObj.cells _ _) = _; simp⟩
 rw [if_neg he]
 have he0 : pnE en a n = 0 := Decidable.not_not.1 he
 obtain ⟨⟨p1, p2⟩, p3, p4, p5⟩ := zCo he0
 have hpos := ((zAv (bs n)).1 p4).1.pos
 obtain ⟨r, hr⟩ : ∃ r, packN T a.toNat (bs n).length (bs n) 0 = r := ⟨_, rfl⟩
 have hl1 := zAy T a.toNat (bs n).length (bs n) 0
 have hne := zCj T a.toNat (bs n).length (bs n) 0 hpos
 rw [hr] at hl1 hne
 simp only [hr]
 obtain ⟨o, F⟩ := r
 have hl1 : o.length ≤ 257 := by have : o.length ≤ (bs n).length + 2 := hl1; omega
 obtain ⟨t, rfl, ht⟩ := zCz k2
 obtain ⟨c, rfl, hc⟩ := zCz k3
 cases o with
 | nil => exact absurd rfl hne
 | cons v vs =>
 have hvl : vs.length + 1 ≤ 257 := hl1
 have hone : oneL ((v :: vs).map byV) = true := oneB _
 have hnv : (v :: vs) ++ by2 t ++ by2 c ≠ [] := by simp
 cases F with
 | nil =>
  refine Exists.intro (⟨0, some 1, en, T, a, n, false, v :: vs, []⟩ : RnX) (And.intro ⟨rfl, (show Tr.get _ 0 = some (AObj.cells [.slice (some ⟨1, 0, none⟩) T.length U, .int .i64 (en : Int)] _) from rfl), ⟨(show Tr.get _ 1 = some (AObj.cells (T.flatMap layT.g) _) from rfl), hT0⟩, hT, (Nat.le_trans hTl (by decide)), hs, (decide_eq_false he).symm, fun _ => hr⟩ ?_)
  refine Exists.intro ((v :: vs).map byV) (And.intro (zAp (l := v :: vs) h1s rfl) ?_)
  refine And.intro (by rw [hby]; simp only [Bool.and_eq_true]; exact ⟨decide_eq_true (by simp; omega), decide_eq_true (by simp; omega)⟩) ?_
  refine And.intro (by rw [h1s, hby]; simp only [Bool.and_eq_true, decide_eq_true_eq]; exact ⟨⟨⟨⟨⟨⟨rfl, rfl⟩, Nat.ble_eq_true_of_le (by simp [by2] <;> omega)⟩, rfl⟩, (by simp <;> omega)⟩, (by simp <;> omega)⟩, Nat.ble_eq_true_of_le (by simp [by2] <;> omega)⟩) ?_
  refine And.intro (by rw [h1s, hby]; simp only [Bool.and_eq_true, decide_eq_true_eq]; exact ⟨⟨⟨⟨⟨⟨rfl, rfl⟩, Nat.ble_eq_true_of_le (by simp [by2] <;> omega)⟩, rfl⟩, (by simp <;> omega)⟩, (by simp <;> omega)⟩, Nat.ble_eq_true_of_le (by simp [by2] <;> omega)⟩) ?_
  have hv : Value.slice (some ⟨9, 0, none⟩) (0 + (v :: vs).length + 2 + 2) U = ovN 9 ((v :: vs) ++ by2 t ++ by2 c) := by rw [zCf 9 hnv]; simp [by2]
  refine ⟨_, _, _, 9, 1, congrArg (fun v => Res.ret (.tuple #[v, .int .i64 0]) _ _ _) hv, fun _ => ⟨by decide, by decide, ?_⟩, .inl ⟨rfl, rfl⟩, by show some (AObj.cells _ _) = _; simp, by show some (AObj.cells _ _) = _; simp⟩
  refine (show some (AObj.cells _ _) = some (AObj.cells _ _) from congrArg (fun l => some (AObj.cells l _)) ?_)
  simp [h1s, by2, List.take_of_length_le, List.take_append]
 | cons p F =>
  refine Exists.intro (⟨0, some 1, en, T, a, n, false, v :: vs, p :: F⟩ : RnX) (And.intro ⟨rfl, (show Tr.get _ 0 = some (AObj.cells [.slice (some ⟨1, 0, none⟩) T.length U, .int .i64 (en : Int)] _) from rfl), ⟨(show Tr.get _ 1 = some (AObj.cells (T.flatMap layT.g) _) from rfl), hT0⟩, hT, (Nat.le_trans hTl (by decide)), hs, (decide_eq_false he).symm, fun _ => hr⟩ ?_)
  refine Exists.intro ((v :: vs).map byV) (And.intro (zAp (l := v :: vs) h1s rfl) ?_)
  refine And.intro (by rw [hby]; simp only [Bool.and_eq_true]; exact ⟨decide_eq_true (by simp; omega), decide_eq_true (by simp; omega)⟩) ?_
  refine And.intro (by rw [h1s, hby]; simp only [Bool.and_eq_true, decide_eq_true_eq]; exact ⟨⟨⟨⟨⟨⟨rfl, rfl⟩, Nat.ble_eq_true_of_le (by simp [by2] <;> omega)⟩, rfl⟩, (by simp <;> omega)⟩, (by simp <;> omega)⟩, Nat.ble_eq_true_of_le (by simp [by2] <;> omega)⟩) ?_
  refine And.intro (by rw [h1s, hby]; simp only [Bool.and_eq_true, decide_eq_true_eq]; exact ⟨⟨⟨⟨⟨⟨rfl, rfl⟩, Nat.ble_eq_true_of_le (by simp [by2] <;> omega)⟩, rfl⟩, (by simp <;> omega)⟩, (by simp <;> omega)⟩, Nat.ble_eq_true_of_le (by simp [by2] <;> omega)⟩) ?_
  have hv : Value.slice (some ⟨10, 0, none⟩) (0 + (v :: vs).length + 2 + 2) U = ovN 10 ((v :: vs) ++ by2 t ++ by2 c) := by rw [zCf 10 hnv]; simp [by2]
  refine ⟨_, _, _, 10, 6, congrArg (fun v => Res.ret (.tuple #[v, .int .i64 0]) _ _ _) hv, fun _ => ⟨by decide, by decide, ?_⟩, .inr ⟨List.cons_ne_nil _ _, by decide, by decide, fun _ => by decide⟩, by show some (AObj.cells _ _) = _; simp, by show some (AObj.cells _ _) = _; simp⟩
  refine (show some (AObj.cells _ _) = some (AObj.cells _ _) from congrArg (fun l => some (AObj.cells l _)) ?_)
  simp [h1s, by2, List.take_of_length_le, List.take_append]
noncomputable def ct_ask : Ct Try.prog 0 := ct_pk 19 AskY AskY.xs AskY.inj (fun _ => rfl) (fun y => shortB y.n = true) (fun en T y => y.D en T) (fun y en T ck hT hs => ask_fn y en T ck hT hs)
noncomputable def ct_recw : Ct Try.prog 0 := ct_pk 21 WrtY WrtY.xs WrtY.inj (fun _ => rfl) (fun y => y.x.ok = true) (fun en T y => y.D en T) (fun y en T ck hT hs => recw_fn y en T ck hT hs)
noncomputable def ct_rask : Ct Try.prog 0 := ct_rpk 20 AskY AskY.xs AskY.inj (fun _ => rfl) (fun y => shortB y.n = true) (fun en T y => y.D en T) 900000000 (fun y en hs => rask0_fn y en hs) (fun y en T hT hT0 hTl hs => rask1_fn y en T hT hT0 hTl hs)
end Go.Proofs.Ytmpaeabkdhjamaa
