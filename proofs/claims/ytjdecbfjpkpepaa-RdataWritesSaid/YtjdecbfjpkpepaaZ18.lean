/- DERIVED. Texts put together: Pk11, Pk12, Pk13, Wr0, Wr1, Wr2, Wr3, Wr4, Sb1. -/
import Derived.Test.YtjdecbfjpkpepaaZ12
import Derived.Test.YtjdecbfjpkpepaaZ17
namespace Go.Proofs.Ytjdecbfjpkpepaa
open Go Go.RowKit
def rqE (a : Nat) (en : Int) (B : Bl) (out : Bl) (F : List (Bl × Nat)) (i : Nat) (f : Nat → Option Value) : Fs := match out, F with
  | [], _ => ⟨slots 7 [(0, .pointer (some ⟨0, 0, none⟩)), (1, .int .i64 (a : Int)), (2, .string (mkS B)), (9, .slice none 0 0), (10, .slice none 0 0), (11, .int .i64 (i : Int))] f, heap 3 [(0, .cells [.slice none 0 0, .int .i64 en] 54)], 1, [], []⟩
  | u :: us, [] => ⟨slots 7 [(0, .pointer (some ⟨0, 0, none⟩)), (1, .int .i64 (a : Int)), (2, .string (mkS B)), (9, .slice (some ⟨1, 0, none⟩) (us.length + 1) U), (10, .slice none 0 0), (11, .int .i64 (i : Int))] f, heap 3 [(0, .cells [.slice none 0 0, .int .i64 en] 54), (1, .cells ((u :: us).map byV) 5)], 2, [], []⟩
  | u :: us, p :: F => ⟨slots 7 [(0, .pointer (some ⟨0, 0, none⟩)), (1, .int .i64 (a : Int)), (2, .string (mkS B)), (9, .slice (some ⟨1, 0, none⟩) (us.length + 1) U), (10, .slice (some ⟨2, 0, none⟩) (F.length + 1) U), (11, .int .i64 (i : Int))] f, heap 3 [(0, .cells [.slice none 0 0, .int .i64 en] 54), (1, .cells ((u :: us).map byV) 5), (2, .cells ((p :: F).flatMap layT.g) 97)], 3, [], []⟩
def rqS (a : Nat) (en : Int) (B : Bl) (x : Bl × List (Bl × Nat)) (f : Nat → Option Value) : Fs := rqE a en B x.1 x.2 x.1.length f
set_option maxRecDepth 1000000 in
set_option maxHeartbeats 16000000 in
theorem rname0_loop (a : Nat) (en : Int) (B : Bl) (ha : a ≤ 65535) (hB : Nm B) (hlB : B.length ≤ 255) {s0 : Fs} {K : Ex → Fs → Prop}
    (h0 : ∃ f, RcM Try.prog 0 1 (3 + (Try.f42.ntmps - 3)) none s0 (rqS a en B ([], []) f))
    (hex : ∀ out F i f, i < B.length → (out = [] → F = []) → (B.getD i 0 = 0 ∧ (out ++ [0], F) = packN [] a B.length B 0 ∨ B.getD i 0 ≠ 0 ∧ (out, F) = packN [] a B.length B 0) → out.length ≤ 257 → K (.exit 0) (rqE a en B out F i f)) :
    LW Try.prog 0 1 (3 + (Try.f42.ntmps - 3)) none (loopAt Try.f42 0) s0 K := by
  have h1s : (Try.prog.types[5]).size = 1 := by kernel_rfl
  have hby : (Try.prog.types[5]).bytes = 1 := by kernel_rfl
  have h2s : (Try.prog.types[97]).size = 2 := by kernel_rfl
  have h2b : (Try.prog.types[97]).bytes = 24 := by kernel_rfl
  obtain ⟨R, hR⟩ : ∃ R, packN [] a B.length B 0 = R := ⟨_, rfl⟩
  rw [hR] at hex
  refine loop_goX (rqS a en B) (fun x => B.length - x.1.length) (fun x => x.1.length ≤ B.length ∧ Nm (B.drop x.1.length) ∧ (x.1 = [] → x.2 = []) ∧ x.2.length ≤ x.1.length ∧ ∃ f, (B.drop x.1.length).length ≤ f ∧ (x.1 ++ (packN [] a f (B.drop x.1.length) x.1.length).1, x.2 ++ (packN [] a f (B.drop x.1.length) x.1.length).2) = R) ([], []) ⟨Nat.zero_le _, hB, fun _ => rfl, Nat.le_refl _, B.length, Nat.le_refl _, hR⟩ h0 ?_
  rintro ⟨out, F⟩ f ⟨hib, hnm, hoF, hFl, fu, hfu, hpk⟩
  have hib : out.length ≤ B.length := hib
  have hoF : out = [] → F = [] := hoF
  have hFl : F.length ≤ out.length := hFl
  obtain ⟨t, ht⟩ : ∃ t, B.drop out.length = t := ⟨_, rfl⟩
  have hnm : Nm (B.drop out.length) := hnm
  have hfu : (B.drop out.length).length ≤ fu := hfu
  have hpk : (out ++ (packN [] a fu (B.drop out.length) out.length).1, F ++ (packN [] a fu (B.drop out.length) out.length).2) = R := hpk
  rw [ht] at hnm hfu hpk
  have htl : t.length = B.length - out.length := by rw [← ht, List.length_drop]
  have hpos := hnm.pos
  obtain ⟨fu, rfl⟩ : ∃ g, fu = g + 1 := ⟨fu - 1, by omega⟩
  obtain ⟨c, hc⟩ : ∃ c, (t.getD 0 0).toNat = c := ⟨_, rfl⟩
  have hcl : c ≤ 63 := by rw [← hc]; cases hnm <;> simp <;> omega
  have hct : c ≠ 0 → c + 1 < t.length ∧ Nm (t.drop (c + 1)) := fun h => by
    cases hnm with
    | root => exact absurd (show c = 0 by rw [← hc]; rfl) h
    | lab c' x r h1 h2 hx hr =>
      have hc : c'.toNat = c := hc
      have e : (c' :: (x ++ r)).drop (c + 1) = r := by rw [List.drop_succ_cons, ← hc, ← hx, List.drop_left]
      refine ⟨?_, by rw [e]; exact hr⟩
      have := hr.pos
      simp; omega
  have hB0 : B.getD out.length 0 = t.getD 0 0 := by rw [← ht]; simp [List.getD_eq_getElem?_getD]
  have FACT : ∀ I : Int, I = (out.length : Int) → inI I (mkS B).data.size = true ∧ ((atS (mkS B) I).toNat : Int) = (c : Int) ∧ inLH I ((mkS B).data.size : Int) (mkS B).data.size = true ∧ subS (mkS B) I.toNat (((mkS B).data.size : Int)).toNat = mkS t ∧
      IntKind.i64.wrap (IntKind.i64.wrap (I + 1) + IntKind.i64.wrap ((atS (mkS B) I).toNat : Int)) = ((out.length + c + 1 : Nat) : Int) ∧ (c ≠ 0 → inLH I (IntKind.i64.wrap (IntKind.i64.wrap (I + 1) + IntKind.i64.wrap ((atS (mkS B) I).toNat : Int))) (mkS B).data.size = true) ∧
      (subS (mkS B) I.toNat (IntKind.i64.wrap (IntKind.i64.wrap (I + 1) + IntKind.i64.wrap ((atS (mkS B) I).toNat : Int))).toNat).data.toList = t.take (c + 1) ∧ IntKind.i64.wrap ((a : Int) + I) = ((a + out.length : Nat) : Int) := fun I hI => by
    subst hI
    have e1 : ((atS (mkS B) (out.length : Int)).toNat : Int) = (c : Int) := by rw [atS_mkS, hB0, hc]
    have e2 : IntKind.i64.wrap (IntKind.i64.wrap ((out.length : Int) + 1) + IntKind.i64.wrap ((atS (mkS B) (out.length : Int)).toNat : Int)) = ((out.length + c + 1 : Nat) : Int) := by
      rw [e1, wrap_i64 (x := (out.length : Int) + 1) (by omega) (by omega), wrap_i64 (x := (c : Int)) (by omega) (by omega), wrap_i64 (by omega) (by omega)]; omega
    refine ⟨by rw [size_mkS]; simp [inI]; omega, e1, by rw [size_mkS]; simp [inLH]; omega, ?_, e2, fun h => ?_, ?_, ?_⟩
    · rw [size_mkS, Int.toNat_natCast, Int.toNat_natCast]; simp [subS, mkS, ht]
    · have := (hct h).1
      rw [e2, size_mkS]; simp [inLH]; omega
    · rw [e2, Int.toNat_natCast, Int.toNat_natCast]
      simp only [subS, mkS]
      rw [← ht]
      rw [show out.length + c + 1 = out.length + (c + 1) by omega, List.drop_take]
      simp
    · rw [wrap_i64 (by omega) (by omega)]; omega
  have hel : c ≠ 0 → (t.take (c + 1)).length = c + 1 := fun h => by have := (hct h).1; rw [List.length_take]; omega
  unfold packN at hpk
  simp only [hc] at hpk
  cases out with
  | nil =>
    have hF0 : F = [] := hoF rfl
    subst hF0
    obtain ⟨k1, k2, k3, k4, k5, k6, k7, k8⟩ := FACT 0 rfl
    obtain ⟨_, _, _, _, l5, _, l7, _⟩ := FACT ((List.length (([] : Bl), ([] : List (Bl × Nat))).fst : Nat) : Int) rfl
    refine sx_ok tbPk9 [1, 2] 1 _ none mixed _ _ _ ?_
    refine And.intro k1 ?_
    refine ifK (fun h1 => ?_) (fun h1 => ?_)
    · have h1 : c ≠ 0 := fun e => by have h1 : (((atS (mkS B) 0).toNat : Int) != 0) = true := h1; rw [k2, e] at h1; cases h1
      rw [if_neg h1] at hpk
      refine And.intro k3 ?_
      refine Exists.intro (⟨0, none, [], en, t⟩ : PlX) (And.intro ⟨by show [Value.pointer _, Value.string (subS (mkS B) (Int.toNat 0) (((mkS B).data.size : Int)).toNat)] = _; rw [k4], rfl, rfl, Nat.zero_le _⟩ ?_)
      have hlk : lookT ([] : List (Bl × Nat)) t = none := rfl
      refine ifK (fun g => ?_) (fun g => ?_)
      · have g : a + 0 < 16384 := by have g : decide (IntKind.i64.wrap ((a : Int) + 0) < 16384) = true := g; rw [k8] at g; have := of_decide_eq_true g; simp at this; omega
        refine And.intro k3 ?_
        refine Exists.intro [Value.string (mkS t), .int .i64 (a : Int)] (And.intro (by rw [h2s]; show some (1, [Value.string (subS (mkS B) (Int.toNat 0) (((mkS B).data.size : Int)).toNat), Value.int .i64 (IntKind.i64.wrap ((a : Int) + 0))]) = _; rw [k4, k8]; rfl) ?_)
        refine And.intro (by kernel_rfl) ?_
        refine And.intro k1 ?_
        refine And.intro (k6 h1) ?_
        refine ifK (fun g => absurd (Nat.eq_of_beq_eq_true g) (by rw [l7, hel h1]; omega)) (fun _ => ?_)
        refine And.intro (by rw [l7, hel h1, hby, decide_eq_true (by omega), decide_eq_true (by omega)]; rfl) ?_
        obtain ⟨u, us, hu⟩ : ∃ u us, t.take (c + 1) = u :: us := by
          have := hel h1
          cases hq : t.take (c + 1) with
          | nil => rw [hq] at this; cases this
          | cons u us => exact ⟨u, us, rfl⟩
        have hul : (u :: us).length = 0 + c + 1 := by rw [← hu, hel h1]; omega
        have hul2 : (([] : Bl).length + c + 1 : Nat) = us.length + 1 := by simp at hul; simp; omega
        have hc1 := hct h1
        have hdr : B.drop (u :: us).length = t.drop (c + 1) := by rw [hul, ← ht]; simp
        refine ⟨(u :: us, [(t, a)]), ⟨?_, ?_, ?_, ?_, fu, ?_, ?_⟩, ?_, ?_⟩
        · show (u :: us).length ≤ B.length
          rw [hul]; simp at htl; omega
        · show Nm (B.drop (u :: us).length)
          rw [hdr]; exact hc1.2
        · intro h; cases h
        · show List.length _ ≤ (u :: us).length
          rw [hul]; simp
        · show (B.drop (u :: us).length).length ≤ fu
          rw [hdr, List.length_drop]; omega
        · show ((u :: us) ++ (packN [] a fu (B.drop (u :: us).length) (u :: us).length).1, [(t, a)] ++ (packN [] a fu (B.drop (u :: us).length) (u :: us).length).2) = R
          rw [hdr]
          have hpk : ([] ++ (t.take (c + 1) ++ (packN [] a fu (t.drop (c + 1)) (0 + c + 1)).1), [] ++ (if a + 0 < 16384 then (t, a + 0) :: (packN [] a fu (t.drop (c + 1)) (0 + c + 1)).2 else (packN [] a fu (t.drop (c + 1)) (0 + c + 1)).2)) = R := hpk
          rw [← hpk, hul]; simp only [if_pos g]; simp [← hu, List.append_assoc]
        · show B.length - (u :: us).length < B.length - 0
          rw [hul]; omega
        exact rc_slots [3, 2] rfl rfl rfl (fun l e => by cases e) (by decide) (by decide) rfl rfl (wr_of rfl) ⟨⟨_, rfl, .ptr _ _ _ rfl⟩, ⟨_, rfl, .int _ _⟩, ⟨_, rfl, .string _⟩, ⟨_, rfl, by rw [l7, hu]; exact .sl _ _ _ _ _ rfl⟩, ⟨_, rfl, .sl _ _ _ _ _ rfl⟩, ⟨_, rfl, by rw [l5, hul2]; exact .int _ _⟩, trivial⟩ ⟨⟨by decide, _, rfl, .same rfl⟩, ⟨by decide, _, rfl, by rw [l7, hu]; exact .same (byV_plain (u :: us))⟩, ⟨by decide, _, rfl, .same rfl⟩, trivial⟩ .nil
      · have g : ¬ a + 0 < 16384 := fun hlt => by have g : decide (IntKind.i64.wrap ((a : Int) + 0) < 16384) = false := g; rw [k8] at g; exact absurd (show ((a + ([] : Bl).length : Nat) : Int) < 16384 by simp; omega) (of_decide_eq_false g)
        refine And.intro k1 ?_
        refine And.intro (k6 h1) ?_
        refine ifK (fun g => absurd (Nat.eq_of_beq_eq_true g) (by rw [l7, hel h1]; omega)) (fun _ => ?_)
        refine And.intro (by rw [l7, hel h1, hby, decide_eq_true (by omega), decide_eq_true (by omega)]; rfl) ?_
        obtain ⟨u, us, hu⟩ : ∃ u us, t.take (c + 1) = u :: us := by
          have := hel h1
          cases hq : t.take (c + 1) with
          | nil => rw [hq] at this; cases this
          | cons u us => exact ⟨u, us, rfl⟩
        have hul : (u :: us).length = 0 + c + 1 := by rw [← hu, hel h1]; omega
        have hul2 : (([] : Bl).length + c + 1 : Nat) = us.length + 1 := by simp at hul; simp; omega
        have hc1 := hct h1
        have hdr : B.drop (u :: us).length = t.drop (c + 1) := by rw [hul, ← ht]; simp
        refine ⟨(u :: us, []), ⟨?_, ?_, ?_, ?_, fu, ?_, ?_⟩, ?_, ?_⟩
        · show (u :: us).length ≤ B.length
          rw [hul]; simp at htl; omega
        · show Nm (B.drop (u :: us).length)
          rw [hdr]; exact hc1.2
        · intro h; cases h
        · show List.length _ ≤ (u :: us).length
          rw [hul]; simp
        · show (B.drop (u :: us).length).length ≤ fu
          rw [hdr, List.length_drop]; omega
        · show ((u :: us) ++ (packN [] a fu (B.drop (u :: us).length) (u :: us).length).1, [] ++ (packN [] a fu (B.drop (u :: us).length) (u :: us).length).2) = R
          rw [hdr]
          have hpk : ([] ++ (t.take (c + 1) ++ (packN [] a fu (t.drop (c + 1)) (0 + c + 1)).1), [] ++ (if a + 0 < 16384 then (t, a + 0) :: (packN [] a fu (t.drop (c + 1)) (0 + c + 1)).2 else (packN [] a fu (t.drop (c + 1)) (0 + c + 1)).2)) = R := hpk
          rw [← hpk, hul]; simp only [if_neg g]; simp [← hu, List.append_assoc]
        · show B.length - (u :: us).length < B.length - 0
          rw [hul]; omega
        exact rc_slots [1] rfl rfl rfl (fun l e => by cases e) (by decide) (by decide) rfl rfl (wr_of rfl) ⟨⟨_, rfl, .ptr _ _ _ rfl⟩, ⟨_, rfl, .int _ _⟩, ⟨_, rfl, .string _⟩, ⟨_, rfl, by rw [l7, hu]; exact .sl _ _ _ _ _ rfl⟩, ⟨_, rfl, plain_rv 8 rfl⟩, ⟨_, rfl, by rw [l5, hul2]; exact .int _ _⟩, trivial⟩ ⟨⟨by decide, _, rfl, .same rfl⟩, ⟨by decide, _, rfl, by rw [l7, hu]; exact .same (byV_plain (u :: us))⟩, trivial⟩ .nil
    · have h1 : c = 0 := by have h1 : (((atS (mkS B) 0).toNat : Int) != 0) = false := h1; rw [k2] at h1; have : (c : Int) = 0 := by simpa using h1
                            omega
      rw [if_pos h1] at hpk
      refine And.intro rfl (rc_end (rc_slots [] rfl rfl rfl (fun l e => by cases e) (by decide) (by decide) rfl rfl (wr_of rfl) (d := 7) (d2 := 3) (lv := [(0, .pointer (some ⟨0, 0, none⟩)), (1, .int .i64 (a : Int)), (2, .string (mkS B)), (9, .slice none 0 0), (10, .slice none 0 0), (11, .int .i64 ((0 : Nat) : Int))]) (bs := [(0, .cells [.slice none 0 0, .int .i64 en] 54)]) (W := []) (m := 1) (df := []) ⟨⟨_, rfl, .ptr _ _ _ rfl⟩, ⟨_, rfl, .int _ _⟩, ⟨_, rfl, .string _⟩, ⟨_, rfl, plain_rv 8 rfl⟩, ⟨_, rfl, plain_rv 8 rfl⟩, ⟨_, rfl, .int _ _⟩, trivial⟩ ⟨⟨by decide, _, rfl, .same rfl⟩, trivial⟩ .nil) (fun f => ?_))
      refine hex [] [] 0 f (by simp at htl; omega) (fun _ => rfl) (.inl ⟨?_, ?_⟩) (by decide)
      · rw [show B.getD 0 0 = t.getD 0 0 from hB0]; exact UInt8.toNat_inj.1 (by rw [hc, h1]; rfl)
      · rw [← hpk]; simp
  | cons u us =>
    have hlen2 : (u :: us).length ≤ 255 := by omega
    have hlen3 : us.length + 1 ≤ 255 := hlen2
    obtain ⟨j1, j2, j3, j4, j5, j6, j7, j8⟩ := FACT ((us.length + 1 : Nat) : Int) rfl
    have hst : oneL ((t.take (c + 1)).map byV) = true := by unfold oneL; exact List.all_eq_true.2 (fun v hv => by obtain ⟨b, _, rfl⟩ := List.mem_map.1 hv; rfl)
    obtain ⟨k1, k2, k3, l4, l5, k6, l7, l8⟩ := FACT ((List.length (u :: us, F).fst : Nat) : Int) rfl
    cases F with
    | nil =>
      refine sx_ok tbPk9 [1, 2] 1 _ none mixed _ _ _ ?_
      refine And.intro k1 ?_
      refine ifK (fun h1 => ?_) (fun h1 => ?_)
      · have h1 : c ≠ 0 := fun e => by have h1 : (((atS (mkS B) ((us.length + 1 : Nat) : Int)).toNat : Int) != 0) = true := h1; rw [j2, e] at h1; cases h1
        rw [if_neg h1] at hpk
        refine And.intro k3 ?_
        refine Exists.intro (⟨0, none, [], en, t⟩ : PlX) (And.intro ⟨by show [Value.pointer _, Value.string (subS (mkS B) (((us.length + 1 : Nat) : Int)).toNat (((mkS B).data.size : Int)).toNat)] = _; rw [j4], rfl, rfl, Nat.zero_le _⟩ ?_)
        have hlk : lookT ([] : List (Bl × Nat)) t = none := rfl
        refine ifK (fun g => ?_) (fun g => ?_)
        · have g : a + (us.length + 1) < 16384 := by have g : decide (IntKind.i64.wrap ((a : Int) + ((us.length + 1 : Nat) : Int)) < 16384) = true := g; rw [j8] at g; have := of_decide_eq_true g; simp only [List.length_cons] at this; omega
          refine And.intro k3 ?_
          refine Exists.intro [Value.string (mkS t), .int .i64 ((a + (us.length + 1) : Nat) : Int)] (And.intro (by rw [h2s]; show some (1, [Value.string (subS (mkS B) (((us.length + 1 : Nat) : Int)).toNat (((mkS B).data.size : Int)).toNat), Value.int .i64 (IntKind.i64.wrap ((a : Int) + ((us.length + 1 : Nat) : Int)))]) = _; rw [j4, j8]; rfl) ?_)
          refine And.intro (by kernel_rfl) ?_
          refine And.intro k1 ?_
          refine And.intro (k6 h1) ?_
          refine ifK (fun g => absurd (Nat.eq_of_beq_eq_true g) (by rw [l7, hel h1]; omega)) (fun _ => ?_)
          refine And.intro (by rw [l7, hby, h1s]; simp only [Bool.and_eq_true, decide_eq_true_eq]; exact ⟨⟨⟨⟨⟨⟨rfl, rfl⟩, Nat.ble_eq_true_of_le (by simp)⟩, hst⟩, (by omega)⟩, (by omega)⟩, Nat.ble_eq_true_of_le (by have := (hct h1).1; simp; omega)⟩) ?_
          have hc1 := hct h1
          have hull : (us ++ t.take (c + 1)).length + 1 = us.length + 1 + c + 1 := by rw [List.length_append, hel h1]; omega
          have hdr : B.drop (u :: (us ++ t.take (c + 1))).length = t.drop (c + 1) := by rw [List.length_cons, hull, ← ht, List.drop_drop]; rfl
          refine ⟨(u :: (us ++ t.take (c + 1)), [(t, a + (us.length + 1))]), ⟨?_, ?_, ?_, ?_, fu, ?_, ?_⟩, ?_, ?_⟩
          · show (u :: (us ++ t.take (c + 1))).length ≤ B.length
            rw [List.length_cons, hull]; simp only [List.length_cons] at htl; omega
          · show Nm (B.drop (u :: (us ++ t.take (c + 1))).length)
            rw [hdr]; exact hc1.2
          · intro h; cases h
          · show List.length _ ≤ (u :: (us ++ t.take (c + 1))).length
            have e : (u :: (us ++ t.take (c + 1))).length = us.length + 1 + c + 1 := hull
            rw [e]; simp only [List.length_cons, List.length_append, List.length_nil] at hFl ⊢; omega
          · show (B.drop (u :: (us ++ t.take (c + 1))).length).length ≤ fu
            rw [hdr, List.length_drop]; omega
          · show ((u :: (us ++ t.take (c + 1))) ++ (packN [] a fu (B.drop (u :: (us ++ t.take (c + 1))).length) (u :: (us ++ t.take (c + 1))).length).1, ([(t, a + (us.length + 1))]) ++ (packN [] a fu (B.drop (u :: (us ++ t.take (c + 1))).length) (u :: (us ++ t.take (c + 1))).length).2) = R
            rw [hdr, List.length_cons]
            have hpk : ((u :: us) ++ (t.take (c + 1) ++ (packN [] a fu (t.drop (c + 1)) (us.length + 1 + c + 1)).1), ([] : List (Bl × Nat)) ++ (if a + (us.length + 1) < 16384 then (t, a + (us.length + 1)) :: (packN [] a fu (t.drop (c + 1)) (us.length + 1 + c + 1)).2 else (packN [] a fu (t.drop (c + 1)) (us.length + 1 + c + 1)).2)) = R := hpk
            rw [← hpk, hull]; simp only [if_pos g]; simp [List.append_assoc]
          · show B.length - (u :: (us ++ t.take (c + 1))).length < B.length - (us.length + 1)
            rw [List.length_cons, hull]; simp only [List.length_cons] at htl; omega
          exact rc_slots [4, 3] rfl rfl rfl (fun l e => by cases e) (by decide) (by decide) rfl rfl (wr_of rfl) ⟨⟨_, rfl, .ptr _ _ _ rfl⟩, ⟨_, rfl, .int _ _⟩, ⟨_, rfl, .string _⟩, ⟨_, rfl, by rw [l7, show (us ++ t.take (c + 1)).length + 1 = us.length + 1 + (t.take (c + 1)).length by rw [List.length_append]; omega]; exact .sl _ _ _ _ _ rfl⟩, ⟨_, rfl, .sl _ _ _ _ _ rfl⟩, ⟨_, rfl, by rw [l5, show (u :: us).length + c + 1 = (u :: (us ++ t.take (c + 1))).length by rw [List.length_cons, List.length_cons, hull]]; exact .int _ _⟩, trivial⟩ ⟨⟨by decide, _, rfl, .same rfl⟩, ⟨by decide, _, rfl, ro_eq (by rw [l7, h1s, Nat.mul_one, List.take_of_length_le (by simp)]; simp <;> rfl) (byV_plain _)⟩, ⟨by decide, _, rfl, .same (flat_plain layT.g layT.plain [(t, a + (us.length + 1))])⟩, trivial⟩ .nil
        · have g : ¬ a + (us.length + 1) < 16384 := fun hlt => by have g : decide (IntKind.i64.wrap ((a : Int) + ((us.length + 1 : Nat) : Int)) < 16384) = false := g; rw [j8] at g; exact absurd (show ((a + (u :: us).length : Nat) : Int) < 16384 by simp only [List.length_cons]; omega) (of_decide_eq_false g)
          refine And.intro k1 ?_
          refine And.intro (k6 h1) ?_
          refine ifK (fun g => absurd (Nat.eq_of_beq_eq_true g) (by rw [l7, hel h1]; omega)) (fun _ => ?_)
          refine And.intro (by rw [l7, hby, h1s]; simp only [Bool.and_eq_true, decide_eq_true_eq]; exact ⟨⟨⟨⟨⟨⟨rfl, rfl⟩, Nat.ble_eq_true_of_le (by simp)⟩, hst⟩, (by omega)⟩, (by omega)⟩, Nat.ble_eq_true_of_le (by have := (hct h1).1; simp; omega)⟩) ?_
          have hc1 := hct h1
          have hull : (us ++ t.take (c + 1)).length + 1 = us.length + 1 + c + 1 := by rw [List.length_append, hel h1]; omega
          have hdr : B.drop (u :: (us ++ t.take (c + 1))).length = t.drop (c + 1) := by rw [List.length_cons, hull, ← ht, List.drop_drop]; rfl
          refine ⟨(u :: (us ++ t.take (c + 1)), []), ⟨?_, ?_, ?_, ?_, fu, ?_, ?_⟩, ?_, ?_⟩
          · show (u :: (us ++ t.take (c + 1))).length ≤ B.length
            rw [List.length_cons, hull]; simp only [List.length_cons] at htl; omega
          · show Nm (B.drop (u :: (us ++ t.take (c + 1))).length)
            rw [hdr]; exact hc1.2
          · intro h; cases h
          · show List.length _ ≤ (u :: (us ++ t.take (c + 1))).length
            have e : (u :: (us ++ t.take (c + 1))).length = us.length + 1 + c + 1 := hull
            rw [e]; simp only [List.length_cons, List.length_append, List.length_nil] at hFl ⊢; omega
          · show (B.drop (u :: (us ++ t.take (c + 1))).length).length ≤ fu
            rw [hdr, List.length_drop]; omega
          · show ((u :: (us ++ t.take (c + 1))) ++ (packN [] a fu (B.drop (u :: (us ++ t.take (c + 1))).length) (u :: (us ++ t.take (c + 1))).length).1, ([]) ++ (packN [] a fu (B.drop (u :: (us ++ t.take (c + 1))).length) (u :: (us ++ t.take (c + 1))).length).2) = R
            rw [hdr, List.length_cons]
            have hpk : ((u :: us) ++ (t.take (c + 1) ++ (packN [] a fu (t.drop (c + 1)) (us.length + 1 + c + 1)).1), ([] : List (Bl × Nat)) ++ (if a + (us.length + 1) < 16384 then (t, a + (us.length + 1)) :: (packN [] a fu (t.drop (c + 1)) (us.length + 1 + c + 1)).2 else (packN [] a fu (t.drop (c + 1)) (us.length + 1 + c + 1)).2)) = R := hpk
            rw [← hpk, hull]; simp only [if_neg g]; simp [List.append_assoc]
          · show B.length - (u :: (us ++ t.take (c + 1))).length < B.length - (us.length + 1)
            rw [List.length_cons, hull]; simp only [List.length_cons] at htl; omega
          exact rc_slots [2] rfl rfl rfl (fun l e => by cases e) (by decide) (by decide) rfl rfl (wr_of rfl) ⟨⟨_, rfl, .ptr _ _ _ rfl⟩, ⟨_, rfl, .int _ _⟩, ⟨_, rfl, .string _⟩, ⟨_, rfl, by rw [l7, show (us ++ t.take (c + 1)).length + 1 = us.length + 1 + (t.take (c + 1)).length by rw [List.length_append]; omega]; exact .sl _ _ _ _ _ rfl⟩, ⟨_, rfl, plain_rv 8 rfl⟩, ⟨_, rfl, by rw [l5, show (u :: us).length + c + 1 = (u :: (us ++ t.take (c + 1))).length by rw [List.length_cons, List.length_cons, hull]]; exact .int _ _⟩, trivial⟩ ⟨⟨by decide, _, rfl, .same rfl⟩, ⟨by decide, _, rfl, ro_eq (by rw [l7, h1s, Nat.mul_one, List.take_of_length_le (by simp)]; simp <;> rfl) (byV_plain _)⟩, trivial⟩ .nil
      · have h1 : c = 0 := by have h1 : (((atS (mkS B) ((us.length + 1 : Nat) : Int)).toNat : Int) != 0) = false := h1; rw [j2] at h1; have : (c : Int) = 0 := by simpa using h1
                              omega
        rw [if_pos h1] at hpk
        refine And.intro rfl (rc_end (rc_slots [1] rfl rfl rfl (fun l e => by cases e) (by decide) (by decide) rfl rfl (wr_of rfl) (d := 7) (d2 := 3) (lv := [(0, .pointer (some ⟨0, 0, none⟩)), (1, .int .i64 (a : Int)), (2, .string (mkS B)), (9, .slice (some ⟨1, 0, none⟩) (us.length + 1) U), (10, .slice none 0 0), (11, .int .i64 ((us.length + 1 : Nat) : Int))]) (bs := [(0, .cells [.slice none 0 0, .int .i64 en] 54), (1, .cells ((u :: us).map byV) 5)]) (W := []) (m := 2) (df := []) ⟨⟨_, rfl, .ptr _ _ _ rfl⟩, ⟨_, rfl, .int _ _⟩, ⟨_, rfl, .string _⟩, ⟨_, rfl, .sl _ _ _ _ _ rfl⟩, ⟨_, rfl, plain_rv 8 rfl⟩, ⟨_, rfl, .int _ _⟩, trivial⟩ ⟨⟨by decide, _, rfl, .same rfl⟩, ⟨by decide, _, rfl, (by first | exact .same (byV_plain _) | exact .sameW (byV_plain _))⟩, trivial⟩ .nil) (fun f => ?_))
        refine hex (u :: us) ([]) (us.length + 1) f (by simp only [List.length_cons] at htl; omega) (fun h => by cases h) (.inl ⟨?_, ?_⟩) (by simp at hlen2 ⊢; omega)
        · rw [show B.getD (us.length + 1) 0 = t.getD 0 0 from hB0]; exact UInt8.toNat_inj.1 (by rw [hc, h1]; rfl)
        · rw [← hpk]; simp
    | cons p F =>
      refine sx_ok tbPk9 [1, 2] 1 _ none mixed _ _ _ ?_
      refine And.intro k1 ?_
      refine ifK (fun h1 => ?_) (fun h1 => ?_)
      · have h1 : c ≠ 0 := fun e => by have h1 : (((atS (mkS B) ((us.length + 1 : Nat) : Int)).toNat : Int) != 0) = true := h1; rw [j2, e] at h1; cases h1
        rw [if_neg h1] at hpk
        refine And.intro k3 ?_
        refine Exists.intro (⟨0, none, [], en, t⟩ : PlX) (And.intro ⟨by show [Value.pointer _, Value.string (subS (mkS B) (((us.length + 1 : Nat) : Int)).toNat (((mkS B).data.size : Int)).toNat)] = _; rw [j4], rfl, rfl, Nat.zero_le _⟩ ?_)
        have hlk : lookT ([] : List (Bl × Nat)) t = none := rfl
        refine ifK (fun g => ?_) (fun g => ?_)
        · have g : a + (us.length + 1) < 16384 := by have g : decide (IntKind.i64.wrap ((a : Int) + ((us.length + 1 : Nat) : Int)) < 16384) = true := g; rw [j8] at g; have := of_decide_eq_true g; simp only [List.length_cons] at this; omega
          refine And.intro k3 ?_
          refine And.intro (by rw [h2s, h2b]; simp only [Bool.and_eq_true, decide_eq_true_eq]; exact ⟨⟨⟨⟨⟨⟨rfl, rfl⟩, Nat.ble_eq_true_of_le (by rw [flat_length layT.g layT.k layT.len]; exact Nat.le_refl _)⟩, rfl⟩, (by simp at hFl hlen2; omega)⟩, (by simp at hFl hlen2; omega)⟩, Nat.ble_eq_true_of_le (by rw [flat_length layT.g layT.k layT.len]; show (F.length + 1) * 2 + 1 ≤ 0 + (F.length + 1) * 2 + 2; omega)⟩) ?_
          refine And.intro k1 ?_
          refine And.intro (k6 h1) ?_
          refine ifK (fun g => absurd (Nat.eq_of_beq_eq_true g) (by rw [l7, hel h1]; omega)) (fun _ => ?_)
          refine And.intro (by rw [l7, hby, h1s]; simp only [Bool.and_eq_true, decide_eq_true_eq]; exact ⟨⟨⟨⟨⟨⟨rfl, rfl⟩, Nat.ble_eq_true_of_le (by simp)⟩, hst⟩, (by omega)⟩, (by omega)⟩, Nat.ble_eq_true_of_le (by have := (hct h1).1; simp; omega)⟩) ?_
          have hc1 := hct h1
          have hull : (us ++ t.take (c + 1)).length + 1 = us.length + 1 + c + 1 := by rw [List.length_append, hel h1]; omega
          have hdr : B.drop (u :: (us ++ t.take (c + 1))).length = t.drop (c + 1) := by rw [List.length_cons, hull, ← ht, List.drop_drop]; rfl
          refine ⟨(u :: (us ++ t.take (c + 1)), p :: (F ++ [(t, a + (us.length + 1))])), ⟨?_, ?_, ?_, ?_, fu, ?_, ?_⟩, ?_, ?_⟩
          · show (u :: (us ++ t.take (c + 1))).length ≤ B.length
            rw [List.length_cons, hull]; simp only [List.length_cons] at htl; omega
          · show Nm (B.drop (u :: (us ++ t.take (c + 1))).length)
            rw [hdr]; exact hc1.2
          · intro h; cases h
          · show List.length _ ≤ (u :: (us ++ t.take (c + 1))).length
            have e : (u :: (us ++ t.take (c + 1))).length = us.length + 1 + c + 1 := hull
            rw [e]; simp only [List.length_cons, List.length_append, List.length_nil] at hFl ⊢; omega
          · show (B.drop (u :: (us ++ t.take (c + 1))).length).length ≤ fu
            rw [hdr, List.length_drop]; omega
          · show ((u :: (us ++ t.take (c + 1))) ++ (packN [] a fu (B.drop (u :: (us ++ t.take (c + 1))).length) (u :: (us ++ t.take (c + 1))).length).1, (p :: (F ++ [(t, a + (us.length + 1))])) ++ (packN [] a fu (B.drop (u :: (us ++ t.take (c + 1))).length) (u :: (us ++ t.take (c + 1))).length).2) = R
            rw [hdr, List.length_cons]
            have hpk : ((u :: us) ++ (t.take (c + 1) ++ (packN [] a fu (t.drop (c + 1)) (us.length + 1 + c + 1)).1), (p :: F) ++ (if a + (us.length + 1) < 16384 then (t, a + (us.length + 1)) :: (packN [] a fu (t.drop (c + 1)) (us.length + 1 + c + 1)).2 else (packN [] a fu (t.drop (c + 1)) (us.length + 1 + c + 1)).2)) = R := hpk
            rw [← hpk, hull]; simp only [if_pos g]; simp [List.append_assoc]
          · show B.length - (u :: (us ++ t.take (c + 1))).length < B.length - (us.length + 1)
            rw [List.length_cons, hull]; simp only [List.length_cons] at htl; omega
          exact rc_slots [5, 4] rfl rfl rfl (fun l e => by cases e) (by decide) (by decide) rfl rfl (wr_of rfl) ⟨⟨_, rfl, .ptr _ _ _ rfl⟩, ⟨_, rfl, .int _ _⟩, ⟨_, rfl, .string _⟩, ⟨_, rfl, by rw [l7, show (us ++ t.take (c + 1)).length + 1 = us.length + 1 + (t.take (c + 1)).length by rw [List.length_append]; omega]; exact .sl _ _ _ _ _ rfl⟩, ⟨_, rfl, by rw [show (F ++ [(t, a + (us.length + 1))]).length + 1 = F.length + 1 + 1 by simp]; exact .sl _ _ _ _ _ rfl⟩, ⟨_, rfl, by rw [l5, show (u :: us).length + c + 1 = (u :: (us ++ t.take (c + 1))).length by rw [List.length_cons, List.length_cons, hull]]; exact .int _ _⟩, trivial⟩ ⟨⟨by decide, _, rfl, .same rfl⟩, ⟨by decide, _, rfl, ro_eq (by rw [l7, h1s, Nat.mul_one, List.take_of_length_le (by simp)]; simp <;> rfl) (byV_plain _)⟩, ⟨by decide, _, rfl, ro_eq (by rw [h2s, l4, l8, List.take_of_length_le (by rw [flat_length layT.g layT.k layT.len]; exact Nat.le_refl _)]; simp [layT]) (flat_plain layT.g layT.plain _)⟩, trivial⟩ .nil
        · have g : ¬ a + (us.length + 1) < 16384 := fun hlt => by have g : decide (IntKind.i64.wrap ((a : Int) + ((us.length + 1 : Nat) : Int)) < 16384) = false := g; rw [j8] at g; exact absurd (show ((a + (u :: us).length : Nat) : Int) < 16384 by simp only [List.length_cons]; omega) (of_decide_eq_false g)
          refine And.intro k1 ?_
          refine And.intro (k6 h1) ?_
          refine ifK (fun g => absurd (Nat.eq_of_beq_eq_true g) (by rw [l7, hel h1]; omega)) (fun _ => ?_)
          refine And.intro (by rw [l7, hby, h1s]; simp only [Bool.and_eq_true, decide_eq_true_eq]; exact ⟨⟨⟨⟨⟨⟨rfl, rfl⟩, Nat.ble_eq_true_of_le (by simp)⟩, hst⟩, (by omega)⟩, (by omega)⟩, Nat.ble_eq_true_of_le (by have := (hct h1).1; simp; omega)⟩) ?_
          have hc1 := hct h1
          have hull : (us ++ t.take (c + 1)).length + 1 = us.length + 1 + c + 1 := by rw [List.length_append, hel h1]; omega
          have hdr : B.drop (u :: (us ++ t.take (c + 1))).length = t.drop (c + 1) := by rw [List.length_cons, hull, ← ht, List.drop_drop]; rfl
          refine ⟨(u :: (us ++ t.take (c + 1)), p :: F), ⟨?_, ?_, ?_, ?_, fu, ?_, ?_⟩, ?_, ?_⟩
          · show (u :: (us ++ t.take (c + 1))).length ≤ B.length
            rw [List.length_cons, hull]; simp only [List.length_cons] at htl; omega
          · show Nm (B.drop (u :: (us ++ t.take (c + 1))).length)
            rw [hdr]; exact hc1.2
          · intro h; cases h
          · show List.length _ ≤ (u :: (us ++ t.take (c + 1))).length
            have e : (u :: (us ++ t.take (c + 1))).length = us.length + 1 + c + 1 := hull
            rw [e]; simp only [List.length_cons, List.length_append, List.length_nil] at hFl ⊢; omega
          · show (B.drop (u :: (us ++ t.take (c + 1))).length).length ≤ fu
            rw [hdr, List.length_drop]; omega
          · show ((u :: (us ++ t.take (c + 1))) ++ (packN [] a fu (B.drop (u :: (us ++ t.take (c + 1))).length) (u :: (us ++ t.take (c + 1))).length).1, (p :: F) ++ (packN [] a fu (B.drop (u :: (us ++ t.take (c + 1))).length) (u :: (us ++ t.take (c + 1))).length).2) = R
            rw [hdr, List.length_cons]
            have hpk : ((u :: us) ++ (t.take (c + 1) ++ (packN [] a fu (t.drop (c + 1)) (us.length + 1 + c + 1)).1), (p :: F) ++ (if a + (us.length + 1) < 16384 then (t, a + (us.length + 1)) :: (packN [] a fu (t.drop (c + 1)) (us.length + 1 + c + 1)).2 else (packN [] a fu (t.drop (c + 1)) (us.length + 1 + c + 1)).2)) = R := hpk
            rw [← hpk, hull]; simp only [if_neg g]; simp [List.append_assoc]
          · show B.length - (u :: (us ++ t.take (c + 1))).length < B.length - (us.length + 1)
            rw [List.length_cons, hull]; simp only [List.length_cons] at htl; omega
          exact rc_slots [3, 2] rfl rfl rfl (fun l e => by cases e) (by decide) (by decide) rfl rfl (wr_of rfl) ⟨⟨_, rfl, .ptr _ _ _ rfl⟩, ⟨_, rfl, .int _ _⟩, ⟨_, rfl, .string _⟩, ⟨_, rfl, by rw [l7, show (us ++ t.take (c + 1)).length + 1 = us.length + 1 + (t.take (c + 1)).length by rw [List.length_append]; omega]; exact .sl _ _ _ _ _ rfl⟩, ⟨_, rfl, .sl _ _ _ _ _ rfl⟩, ⟨_, rfl, by rw [l5, show (u :: us).length + c + 1 = (u :: (us ++ t.take (c + 1))).length by rw [List.length_cons, List.length_cons, hull]]; exact .int _ _⟩, trivial⟩ ⟨⟨by decide, _, rfl, .same rfl⟩, ⟨by decide, _, rfl, ro_eq (by rw [l7, h1s, Nat.mul_one, List.take_of_length_le (by simp)]; simp <;> rfl) (byV_plain _)⟩, ⟨by decide, _, rfl, (by first | exact .same (flat_plain layT.g layT.plain _) | exact .sameW (flat_plain layT.g layT.plain _))⟩, trivial⟩ .nil
      · have h1 : c = 0 := by have h1 : (((atS (mkS B) ((us.length + 1 : Nat) : Int)).toNat : Int) != 0) = false := h1; rw [j2] at h1; have : (c : Int) = 0 := by simpa using h1
                              omega
        rw [if_pos h1] at hpk
        refine And.intro rfl (rc_end (rc_slots [1, 2] rfl rfl rfl (fun l e => by cases e) (by decide) (by decide) rfl rfl (wr_of rfl) (d := 7) (d2 := 3) (lv := [(0, .pointer (some ⟨0, 0, none⟩)), (1, .int .i64 (a : Int)), (2, .string (mkS B)), (9, .slice (some ⟨1, 0, none⟩) (us.length + 1) U), (10, .slice (some ⟨2, 0, none⟩) (F.length + 1) U), (11, .int .i64 ((us.length + 1 : Nat) : Int))]) (bs := [(0, .cells [.slice none 0 0, .int .i64 en] 54), (1, .cells ((u :: us).map byV) 5), (2, .cells ((p :: F).flatMap layT.g) 97)]) (W := []) (m := 3) (df := []) ⟨⟨_, rfl, .ptr _ _ _ rfl⟩, ⟨_, rfl, .int _ _⟩, ⟨_, rfl, .string _⟩, ⟨_, rfl, .sl _ _ _ _ _ rfl⟩, ⟨_, rfl, .sl _ _ _ _ _ rfl⟩, ⟨_, rfl, .int _ _⟩, trivial⟩ ⟨⟨by decide, _, rfl, .same rfl⟩, ⟨by decide, _, rfl, (by first | exact .same (byV_plain _) | exact .sameW (byV_plain _))⟩, ⟨by decide, _, rfl, (by first | exact .same (flat_plain layT.g layT.plain _) | exact .sameW (flat_plain layT.g layT.plain _))⟩, trivial⟩ .nil) (fun f => ?_))
        refine hex (u :: us) (p :: F) (us.length + 1) f (by simp only [List.length_cons] at htl; omega) (fun h => by cases h) (.inl ⟨?_, ?_⟩) (by simp at hlen2 ⊢; omega)
        · rw [show B.getD (us.length + 1) 0 = t.getD 0 0 from hB0]; exact UInt8.toNat_inj.1 (by rw [hc, h1]; rfl)
        · rw [← hpk]; simp
end Go.Proofs.Ytjdecbfjpkpepaa
namespace Go.Proofs.Ytjdecbfjpkpepaa
open Go Go.RowKit
set_option maxRecDepth 1000000 in
set_option maxHeartbeats 8000000 in
theorem rname0_fn (a en : Nat) (B : Bl) (ha : a ≤ 65535) (hen : en ≤ a) (hB : Nm B) (hlB : B.length ≤ 255) :
    ∃ r, FnS Try.prog 0 42 [.pointer (some ⟨0, 0, none⟩), .int .i64 (a : Int), .string (mkS B)] (heap 1 [(0, .cells [.slice none 0 0, .int .i64 (en : Int)] 54)]) 1 r ∧
      ∃ H m wr b l, r = .ret (.tuple #[.slice (some ⟨b, 0, none⟩) (packN [] a B.length B 0).1.length U, .int .i64 0]) H m wr ∧ (1 ≤ b ∧ b < JJ ∧ 0 ∈ wr) ∧ H.get b = some (.cells ((packN [] a B.length B 0).1.map byV) 5) ∧
        ((packN [] a B.length B 0).2 = [] ∧ H.get 0 = some (.cells [.slice none 0 0, .int .i64 ((a + (packN [] a B.length B 0).1.length : Nat) : Int)] 54) ∨ (packN [] a B.length B 0).2 ≠ [] ∧ (1 ≤ l ∧ l < JJ ∧ l ≠ b) ∧ H.get 0 = some (.cells [.slice (some ⟨l, 0, none⟩) (packN [] a B.length B 0).2.length U, .int .i64 ((a + (packN [] a B.length B 0).1.length : Nat) : Int)] 54) ∧ H.get l = some (.cells ((packN [] a B.length B 0).2.flatMap layT.g) 97)) := by
  have hsh : shortB (mkS B) = true := by unfold shortB; rw [size_mkS]; exact Nat.ble_eq_true_of_le (by omega)
  have hlab : (labels (bs (mkS B))).2 = 0 := by rw [show bs (mkS B) = B from by simp [bs, mkS]]; exact (labels_nm B).2 ⟨hB, hlB⟩
  have h1s : (Try.prog.types[5]).size = 1 := by kernel_rfl
  have hby : (Try.prog.types[5]).bytes = 1 := by kernel_rfl
  have h2s : (Try.prog.types[97]).size = 2 := by kernel_rfl
  have h2b : (Try.prog.types[97]).bytes = 24 := by kernel_rfl
  refine fn_sx mixed tbPk9 [1, 2] Try.func42 (c := bodyOf Try.f42) (by kernel_rfl) ?_
  refine And.intro hsh ?_
  refine ifK (fun g => by have g : ((labels (bs (mkS B))).2 != 0) = true := g; rw [hlab] at g; cases g) (fun _ => ?_)
  refine ifK (fun g => absurd (of_decide_eq_true g) (by omega)) (fun _ => ?_)
  refine ifK (fun g => absurd (of_decide_eq_true g) (by omega)) (fun _ => ?_)
  refine rname0_loop a (en : Int) B ha hB hlB (rc_slots [] rfl rfl rfl (fun l e => by cases e) (by decide) (by decide) rfl rfl (wr_of rfl) ⟨⟨_, rfl, .ptr _ _ _ rfl⟩, ⟨_, rfl, .int _ _⟩, ⟨_, rfl, .string _⟩, ⟨_, rfl, plain_rv 8 rfl⟩, ⟨_, rfl, plain_rv 8 rfl⟩, ⟨_, rfl, .int _ _⟩, trivial⟩ ⟨⟨by decide, _, rfl, .same rfl⟩, trivial⟩ .nil) ?_
  intro out F i f hi hoF hor hl
  have e1 : inI (i : Int) (mkS B).data.size = true := by rw [size_mkS]; simp [inI]; omega
  have e2 : ((atS (mkS B) (i : Int)).toNat : Int) = ((B.getD i 0).toNat : Int) := by rw [atS_mkS]
  cases out with
  | nil =>
    have hF0 : F = [] := hoF rfl
    subst hF0
    rcases hor with ⟨c0, hR⟩ | ⟨_, hR⟩
    · rw [← hR]
      refine And.intro e1 ?_
      refine ifK (fun _ => ?_) (fun g => by have g : (((atS (mkS B) (i : Int)).toNat : Int) == 0) = false := g; rw [e2, c0] at g; cases g)
      refine Exists.intro [Value.int .u8 0] (And.intro rfl ?_)
      refine And.intro (by kernel_rfl) ?_
      have ew : IntKind.i64.wrap ((a : Int) + ((1 : Nat) : Int)) = ((a + 1 : Nat) : Int) := by rw [wrap_i64 (by omega) (by omega)]; omega
      refine ⟨_, _, _, 2, 0, rfl, ⟨by decide, by decide, List.mem_of_elem_eq_true (by kernel_rfl)⟩, rfl, .inl ⟨rfl, ?_⟩⟩
      show some (AObj.cells [.slice none 0 0, .int .i64 (IntKind.i64.wrap ((a : Int) + ((1 : Nat) : Int)))] _) = _
      rw [ew]; rfl
    · exact absurd (congrArg Prod.fst hR).symm (packN_ne [] a _ B 0 hB.pos)
  | cons u us =>
    have hl : us.length + 1 ≤ 257 := hl
    cases F with
    | nil =>
      rcases hor with ⟨c0, hR⟩ | ⟨c0, hR⟩
      · have eL : (packN [] a B.length B 0).1.length = us.length + 1 + 1 := by rw [← hR]; simp
        rw [eL, ← hR]
        refine And.intro e1 ?_
        refine ifK (fun _ => ?_) (fun g => by have g : (((atS (mkS B) (i : Int)).toNat : Int) == 0) = false := g; rw [e2, c0] at g; cases g)
        refine Exists.intro [Value.int .u8 0] (And.intro rfl ?_)
        refine And.intro (by rw [hby, h1s]; simp only [Bool.and_eq_true, decide_eq_true_eq]; exact ⟨⟨⟨⟨⟨⟨rfl, rfl⟩, Nat.ble_eq_true_of_le (by simp)⟩, rfl⟩, (by omega)⟩, (by omega)⟩, Nat.ble_eq_true_of_le (by simp)⟩) ?_
        have ew : IntKind.i64.wrap ((a : Int) + ((us.length + 1 + 1 : Nat) : Int)) = ((a + (us.length + 1 + 1) : Nat) : Int) := by rw [wrap_i64 (by omega) (by omega)]; omega
        refine ⟨_, _, _, 3, 0, rfl, ⟨by decide, by decide, List.mem_of_elem_eq_true (by kernel_rfl)⟩, (show some (AObj.cells (List.take _ _ ++ _) _) = _ from by rw [h1s, Nat.mul_one, List.take_of_length_le (by simp)]; simp <;> rfl), .inl ⟨rfl, ?_⟩⟩
        show some (AObj.cells [.slice none 0 0, .int .i64 (IntKind.i64.wrap ((a : Int) + ((us.length + 1 + 1 : Nat) : Int)))] _) = _
        rw [ew] <;> rfl
      · have eL : (packN [] a B.length B 0).1.length = us.length + 1 := by rw [← hR]; rfl
        rw [eL, ← hR]
        refine And.intro e1 ?_
        refine ifK (fun g => by have g : (((atS (mkS B) (i : Int)).toNat : Int) == 0) = true := g; rw [e2] at g; exact absurd (UInt8.toNat_inj.1 (show (B.getD i 0).toNat = (0 : UInt8).toNat by have g : ((B.getD i 0).toNat : Int) = 0 := (by simpa using g); show _ = 0; omega)) c0) (fun _ => ?_)
        have ew : IntKind.i64.wrap ((a : Int) + ((us.length + 1 : Nat) : Int)) = ((a + (us.length + 1) : Nat) : Int) := by rw [wrap_i64 (by omega) (by omega)]; omega
        refine ⟨_, _, _, 1, 0, rfl, ⟨by decide, by decide, List.mem_of_elem_eq_true (by kernel_rfl)⟩, rfl, .inl ⟨rfl, ?_⟩⟩
        show some (AObj.cells [.slice none 0 0, .int .i64 (IntKind.i64.wrap ((a : Int) + ((us.length + 1 : Nat) : Int)))] _) = _
        rw [ew] <;> rfl
    | cons p F =>
      rcases hor with ⟨c0, hR⟩ | ⟨c0, hR⟩
      · have eL : (packN [] a B.length B 0).1.length = us.length + 1 + 1 := by rw [← hR]; simp
        rw [eL, ← hR]
        refine And.intro e1 ?_
        refine ifK (fun _ => ?_) (fun g => by have g : (((atS (mkS B) (i : Int)).toNat : Int) == 0) = false := g; rw [e2, c0] at g; cases g)
        refine And.intro (by rw [hby, h1s]; simp only [Bool.and_eq_true, decide_eq_true_eq]; exact ⟨⟨⟨⟨⟨⟨rfl, rfl⟩, Nat.ble_eq_true_of_le (by simp)⟩, rfl⟩, (by omega)⟩, (by omega)⟩, Nat.ble_eq_true_of_le (by simp)⟩) ?_
        refine Exists.intro ((p :: F).flatMap layT.g) (And.intro ?_ ?_)
        · exact src_layT (pre := []) (post := []) (l := p :: F) h2s (by rw [List.append_nil, List.nil_append]; kernel_rfl)
        have hFb : F.length + 1 ≤ 300 := by have := packN2_len [] a B.length B 0; rw [eL, ← hR] at this; simp only [List.length_cons] at this; omega
        have ho1 : oneL ((p :: F).flatMap layT.g) = true := oneT _
        refine And.intro (by rw [h2b, Bool.and_eq_true]; exact ⟨decide_eq_true (by omega), decide_eq_true (by omega)⟩) ?_
        have ew : IntKind.i64.wrap ((a : Int) + ((us.length + 1 + 1 : Nat) : Int)) = ((a + (us.length + 1 + 1) : Nat) : Int) := by rw [wrap_i64 (by omega) (by omega)]; omega
        refine ⟨_, _, _, 4, 5, rfl, ⟨by decide, by decide, List.mem_of_elem_eq_true (by kernel_rfl)⟩, (show some (AObj.cells (List.take _ _ ++ _) _) = _ from by rw [h1s, Nat.mul_one, List.take_of_length_le (by simp)]; simp <;> rfl), .inr ⟨List.cons_ne_nil _ _, ⟨by decide, by decide, by decide⟩, ?_, ?_⟩⟩
        · show some (AObj.cells [.slice (some ⟨5, 0, none⟩) (F.length + 1) U, .int .i64 (IntKind.i64.wrap ((a : Int) + ((us.length + 1 + 1 : Nat) : Int)))] _) = _
          rw [ew] <;> rfl
        · rfl
      · have eL : (packN [] a B.length B 0).1.length = us.length + 1 := by rw [← hR]; rfl
        rw [eL, ← hR]
        refine And.intro e1 ?_
        refine ifK (fun g => by have g : (((atS (mkS B) (i : Int)).toNat : Int) == 0) = true := g; rw [e2] at g; exact absurd (UInt8.toNat_inj.1 (show (B.getD i 0).toNat = (0 : UInt8).toNat by have g : ((B.getD i 0).toNat : Int) = 0 := (by simpa using g); show _ = 0; omega)) c0) (fun _ => ?_)
        refine Exists.intro ((p :: F).flatMap layT.g) (And.intro ?_ ?_)
        · exact src_layT (pre := []) (post := []) (l := p :: F) h2s (by rw [List.append_nil, List.nil_append]; kernel_rfl)
        have hFb : F.length + 1 ≤ 300 := by have := packN2_len [] a B.length B 0; rw [eL, ← hR] at this; simp only [List.length_cons] at this; omega
        have ho1 : oneL ((p :: F).flatMap layT.g) = true := oneT _
        refine And.intro (by rw [h2b, Bool.and_eq_true]; exact ⟨decide_eq_true (by omega), decide_eq_true (by omega)⟩) ?_
        have ew : IntKind.i64.wrap ((a : Int) + ((us.length + 1 : Nat) : Int)) = ((a + (us.length + 1) : Nat) : Int) := by rw [wrap_i64 (by omega) (by omega)]; omega
        refine ⟨_, _, _, 1, 3, rfl, ⟨by decide, by decide, List.mem_of_elem_eq_true (by kernel_rfl)⟩, rfl, .inr ⟨List.cons_ne_nil _ _, ⟨by decide, by decide, by decide⟩, ?_, ?_⟩⟩
        · show some (AObj.cells [.slice (some ⟨3, 0, none⟩) (F.length + 1) U, .int .i64 (IntKind.i64.wrap ((a : Int) + ((us.length + 1 : Nat) : Int)))] _) = _
          rw [ew] <;> rfl
        · rfl
end Go.Proofs.Ytjdecbfjpkpepaa
namespace Go.Proofs.Ytjdecbfjpkpepaa
open Go Go.RowKit
def setL (H : Tr AObj) : List (Nat × Option AObj) → Tr AObj
  | [] => H
  | (k, o) :: l => setL (H.set k o) l
theorem setL_ne : ∀ (l : List (Nat × Option AObj)) (H : Tr AObj) (j : Nat), j ∉ l.map (·.1) → (setL H l).get j = H.get j
  | [], _, _, _ => rfl
  | p :: l, H, j, h => by
    rw [List.map_cons, List.mem_cons, not_or] at h
    show (setL (H.set p.1 p.2) l).get j = _
    rw [setL_ne l _ j h.2, Tr.get_set_ne _ _ h.1]
theorem setL_get : ∀ (l : List (Nat × Option AObj)) (H : Tr AObj) (j : Nat) (o : AObj), (setL H l).get j = some o → (j, some o) ∈ l ∨ j ∉ l.map (·.1) ∧ H.get j = some o
  | [], _, _, _, h => .inr ⟨List.not_mem_nil, h⟩
  | p :: l, H, j, o, h => by
    rcases setL_get l (H.set p.1 p.2) j o h with h1 | ⟨h1, h2⟩
    · exact .inl (List.mem_cons_of_mem _ h1)
    · by_cases hj : j = p.1
      · rw [hj, Tr.get_set_self] at h2
        refine .inl (List.mem_cons.2 (.inl ?_))
        rw [hj, ← h2]
      · rw [Tr.get_set_ne _ _ hj] at h2
        refine .inr ⟨?_, h2⟩
        rw [List.map_cons, List.mem_cons, not_or]; exact ⟨hj, h1⟩
theorem tau_old {A B : List Nat} {n k j : Nat} (h : A[k]? = some j) : tau A B n k j := by
  have hk : k < A.length := (List.getElem?_eq_some_iff.1 h).1
  unfold tau tauF
  rw [show Nat.blt k A.length = true from Nat.ble_eq_true_of_le hk, cond_true, h]
theorem callOK_sets {f : FuncId} {args args0 : List Value} {H H0 H' : Tr AObj} {n m : Nat} {wr : List Nat} {v0 v : Value} (A B : List Nat) (ups : List (Nat × Option AObj)) (hF : FnS Try.prog 0 f args0 H0 A.length (.ret v0 H' m wr))
    (hA : A.Nodup) (hcb : CallB Try.prog A H H0) (harg : RL (caR A) args args0) (hw0 : ∀ k o, H0.get k = some o → k < A.length → ¬ o.isWin) (hw : ∀ j ∈ A, ∃ o, H.get j = some o ∧ ¬ o.isWin)
    (hB : B.Nodup) (hBn : ∀ x ∈ B, A.length ≤ x ∧ x < JJ ∧ H'.get x ≠ none) (hv : RV (tau A B n) v0 v)
    (hu : ∀ p ∈ ups, p.1 ∈ A ∨ n ≤ p.1 ∧ p.1 < n + B.length)
    (hk : ∀ k j, A[k]? = some j → k ∈ wr → j ∈ ups.map (·.1) ∨ ∃ o o1, H.get j = some o ∧ H'.get k = some o1 ∧ RO Try.prog (tau A B n) o1 o)
    (hs : ∀ j o, (j, some o) ∈ ups → ∃ k o1, tau A B n k j ∧ H'.get k = some o1 ∧ RO Try.prog (tau A B n) o1 o ∧ (k < A.length → k ∈ wr)) :
    CallOK Try.prog 0 f args H n (.ret v (setL H ups) (n + B.length) A) := by
  refine callOK_of_fnsN (A := A) (B := B) rfl hF (dup_nodup hA) (ArgOK.of harg) hcb hB (fun x hx => ⟨(hBn x hx).1, (hBn x hx).2.1⟩) (fun x hx => (hBn x hx).2.2) (.ret _ _ _ _ _ _ _ _ hv) rfl ⟨Nat.le_add_right _ _, fun j hj hm => ?_, fun h0 k hk2 => ?_⟩ (fun k hk1 hl => ⟨fun o ho => hw0 k o ho hl, fun j hj => ⟨hw j (List.mem_of_getElem? hj), List.mem_of_getElem? hj⟩⟩) (fun j o h => ?_)
  · refine setL_ne ups H j (fun hm2 => ?_)
    obtain ⟨p, hp, e⟩ := List.mem_map.1 hm2
    rcases hu p hp with h1 | h1
    · exact hm (e ▸ h1)
    · omega
  · have hne : k ∉ ups.map (·.1) := fun hm2 => by
      obtain ⟨p, hp, e⟩ := List.mem_map.1 hm2
      rcases hu p hp with h1 | h1
      · obtain ⟨o, ho, _⟩ := hw _ h1
        have := h0.lt (k := p.1) (by rw [ho]; simp)
        omega
      · omega
    rw [setL_ne ups H k hne]
    exact h0 k (by omega)
  · rcases setL_get ups H j o h with h1 | ⟨h1, h2⟩
    · exact .inr (hs j o h1)
    · by_cases hm : ∃ k, A[k]? = some j ∧ k ∈ wr
      · obtain ⟨k, e1, e2⟩ := hm
        rcases hk k j e1 e2 with h3 | ⟨o', o1, h3, h4, h5⟩
        · exact absurd h3 h1
        · rw [h2] at h3; cases h3
          exact .inr ⟨k, o1, tau_old e1, h4, h5, fun _ => e2⟩
      · exact .inl ⟨h2, fun k e1 e2 => hm ⟨k, e1, e2⟩⟩
set_option maxRecDepth 1000000 in
set_option maxHeartbeats 8000000 in
theorem rnameE_fn (a : Int) (en : Nat) (cells : List Value) (hp : plainL cells = true) (c : Nat) (s : ByteArray) (hs : shortB s = true) (he : pnE en a s ≠ 0) :
    ∃ r, FnS Try.prog 0 42 [.pointer (some ⟨0, 0, none⟩), .int .i64 a, .string s] (heap 2 [(0, .cells [.slice (some ⟨1, 0, none⟩) c U, .int .i64 (en : Int)] 54), (1, .cells cells 97)]) 2 r ∧
      ∃ H m wr, r = .ret (.tuple #[.slice none 0 0, .int .i64 (pnE en a s)]) H m wr ∧ ∀ k ∈ wr, 2 ≤ k := by
  refine fn_sx mixed tbPk9 [1, 2, 3] Try.func42 (c := bodyOf Try.f42) (by kernel_rfl) ?_
  unfold pnE at he ⊢
  refine And.intro hs ?_
  refine ifK (fun g => ?_) (fun g => ?_)
  · have g : (labels (bs s)).2 ≠ 0 := by have g : ((labels (bs s)).2 != 0) = true := g; simpa using g
    rw [if_pos g]; exact ⟨_, _, _, rfl, wr_ge rfl⟩
  have g : (labels (bs s)).2 = 0 := by have g : ((labels (bs s)).2 != 0) = false := g; simpa using g
  rw [if_neg (by simpa using g)] at he ⊢
  refine ifK (fun h1 => ?_) (fun h1 => ?_)
  · have h1 := of_decide_eq_true h1
    rw [if_pos (.inl h1)]; exact ⟨_, _, _, rfl, wr_ge rfl⟩
  have h1 := of_decide_eq_false h1
  refine ifK (fun h2 => ?_) (fun h2 => ?_)
  · have h2 := of_decide_eq_true h2
    rw [if_pos (.inr h2)]; exact ⟨_, _, _, rfl, wr_ge rfl⟩
  have h2 := of_decide_eq_false h2
  rw [if_neg (by omega)] at he ⊢
  refine ifK (fun h3 => ?_) (fun h3 => ?_)
  · have h3 := of_decide_eq_true h3
    rw [if_pos h3]; exact ⟨_, _, _, rfl, wr_ge rfl⟩
  have h3 := of_decide_eq_false h3
  rw [if_neg h3] at he
  exact absurd rfl he
set_option maxRecDepth 1000000 in
set_option maxHeartbeats 8000000 in
theorem rnameE0_fn (a : Int) (en : Nat) (s : ByteArray) (hs : shortB s = true) (he : pnE en a s ≠ 0) :
    ∃ r, FnS Try.prog 0 42 [.pointer (some ⟨0, 0, none⟩), .int .i64 a, .string s] (heap 1 [(0, .cells [.slice none 0 0, .int .i64 (en : Int)] 54)]) 1 r ∧
      ∃ H m wr, r = .ret (.tuple #[.slice none 0 0, .int .i64 (pnE en a s)]) H m wr ∧ ∀ k ∈ wr, 1 ≤ k := by
  refine fn_sx mixed tbPk9 [1, 2, 3] Try.func42 (c := bodyOf Try.f42) (by kernel_rfl) ?_
  unfold pnE at he ⊢
  refine And.intro hs ?_
  refine ifK (fun g => ?_) (fun g => ?_)
  · have g : (labels (bs s)).2 ≠ 0 := by have g : ((labels (bs s)).2 != 0) = true := g; simpa using g
    rw [if_pos g]; exact ⟨_, _, _, rfl, wr_ge rfl⟩
  have g : (labels (bs s)).2 = 0 := by have g : ((labels (bs s)).2 != 0) = false := g; simpa using g
  rw [if_neg (by simpa using g)] at he ⊢
  refine ifK (fun h1 => ?_) (fun h1 => ?_)
  · have h1 := of_decide_eq_true h1
    rw [if_pos (.inl h1)]; exact ⟨_, _, _, rfl, wr_ge rfl⟩
  have h1 := of_decide_eq_false h1
  refine ifK (fun h2 => ?_) (fun h2 => ?_)
  · have h2 := of_decide_eq_true h2
    rw [if_pos (.inr h2)]; exact ⟨_, _, _, rfl, wr_ge rfl⟩
  have h2 := of_decide_eq_false h2
  rw [if_neg (by omega)] at he ⊢
  refine ifK (fun h3 => ?_) (fun h3 => ?_)
  · have h3 := of_decide_eq_true h3
    rw [if_pos h3]; exact ⟨_, _, _, rfl, wr_ge rfl⟩
  have h3 := of_decide_eq_false h3
  rw [if_neg h3] at he
  exact absurd rfl he
structure RnX where
  pb : Nat
  v : Option Nat
  en : Nat
  T : List (Bl × Nat)
  a : Int
  s : ByteArray
  er : Bool
  o : Bl
  F : List (Bl × Nat)
def rnV (v : Option Nat) (T : List (Bl × Nat)) : Value := match v with
  | none => .slice none 0 0
  | some b => .slice (some ⟨b, 0, none⟩) T.length U
def rnAt (v : Option Nat) (T : List (Bl × Nat)) (H : Tr AObj) : Prop := match v with
  | none => T = []
  | some b => H.get b = some (.cells (T.flatMap layT.g) 97) ∧ T ≠ []
def rnO (pb : Nat) (v : Option Nat) (T : List (Bl × Nat)) (a : Int) (o : Bl) (F : List (Bl × Nat)) (H : Tr AObj) (n : Nat) : Res := match v, F with
  | none, [] => .ret (.tuple #[.slice (some ⟨n, 0, none⟩) o.length U, .int .i64 0]) ((H.set pb (some (.cells [.slice none 0 0, .int .i64 ((a.toNat + o.length : Nat) : Int)] 54))).set n (some (.cells (o.map byV) 5))) (n + 1) [pb]
  | none, p :: F => .ret (.tuple #[.slice (some ⟨n, 0, none⟩) o.length U, .int .i64 0]) (((H.set pb (some (.cells [.slice (some ⟨n + 1, 0, none⟩) (T ++ p :: F).length U, .int .i64 ((a.toNat + o.length : Nat) : Int)] 54))).set n (some (.cells (o.map byV) 5))).set (n + 1) (some (.cells ((T ++ p :: F).flatMap layT.g) 97))) (n + 2) [pb]
  | some b, [] => .ret (.tuple #[.slice (some ⟨n, 0, none⟩) o.length U, .int .i64 0]) ((H.set pb (some (.cells [.slice (some ⟨b, 0, none⟩) T.length U, .int .i64 ((a.toNat + o.length : Nat) : Int)] 54))).set n (some (.cells (o.map byV) 5))) (n + 1) [pb, b]
  | some b, p :: F => .ret (.tuple #[.slice (some ⟨n, 0, none⟩) o.length U, .int .i64 0]) ((((H.set pb (some (.cells [.slice (some ⟨n + 1, 0, none⟩) (T ++ p :: F).length U, .int .i64 ((a.toNat + o.length : Nat) : Int)] 54))).set b none).set n (some (.cells (o.map byV) 5))).set (n + 1) (some (.cells ((T ++ p :: F).flatMap layT.g) 97))) (n + 2) [pb, b]
def RnX.res (x : RnX) (H : Tr AObj) (n : Nat) : Res := match x.er with
  | true => .ret (.tuple #[.slice none 0 0, .int .i64 (pnE x.en x.a x.s)]) H n []
  | false => rnO x.pb x.v x.T x.a x.o x.F H n
theorem rn_pre {v v' : Option Nat} {T T' : List (Bl × Nat)} {en en' : Nat} {H : Tr AObj} {pb : Nat} (h2 : H.get pb = some (.cells [rnV v T, .int .i64 (en : Int)] 54)) (k2 : H.get pb = some (.cells [rnV v' T', .int .i64 (en' : Int)] 54)) (h3 : rnAt v T H) (k3 : rnAt v' T' H) : v = v' ∧ T = T' ∧ en = en' := by
  rw [h2] at k2
  simp only [Option.some.injEq, AObj.cells.injEq, List.cons.injEq, Value.int.injEq, true_and, and_true] at k2
  obtain ⟨hv, e⟩ := k2
  have e : en = en' := by omega
  subst e
  cases v with
  | none => cases v' with
    | none => have h3 : T = [] := h3; have k3 : T' = [] := k3; rw [h3, k3]; exact ⟨rfl, rfl, rfl⟩
    | some p => cases hv
  | some p => cases v' with
    | none => cases hv
    | some q =>
      simp only [rnV, Value.slice.injEq, Option.some.injEq, Addr.mk.injEq, and_true] at hv
      obtain ⟨rfl, _⟩ := hv
      have h3 : H.get p = some (.cells (T.flatMap layT.g) 97) := h3.1
      have k3 : H.get p = some (.cells (T'.flatMap layT.g) 97) := k3.1
      rw [h3] at k3
      simp only [Option.some.injEq, AObj.cells.injEq, and_true] at k3
      exact ⟨rfl, layT.flat_inj _ _ k3, rfl⟩
theorem box_ro (σ : Nat → Nat → Prop) (k b : Nat) (h : σ k b) (c : Nat) (e : Int) : RO Try.prog σ (.cells [.slice (some ⟨k, 0, none⟩) c U, .int .i64 e] 54) (.cells [.slice (some ⟨b, 0, none⟩) c U, .int .i64 e] 54) := RO.cells [_, _] [] _ _ (.cons _ _ _ _ (.sl _ _ _ _ _ h) (.cons _ _ _ _ (.int _ _) .nil))
theorem pb_ne {H : Tr AObj} {pb b : Nat} {l l' : List Value} (h2 : H.get pb = some (.cells l 54)) (h3 : H.get b = some (.cells l' 97)) : pb ≠ b := fun e => by
  subst e; rw [h2] at h3
  have : (54 : Nat) = 97 := by
    simp only [Option.some.injEq, AObj.cells.injEq] at h3; exact h3.2
  exact absurd this (by decide)
set_option maxHeartbeats 8000000 in
theorem rn_ok0 (pb en : Nat) (a : Int) (s : ByteArray) (hs : shortB s = true) (H : Tr AObj) (n : Nat) (h2 : H.get pb = some (.cells [.slice none 0 0, .int .i64 (en : Int)] 54)) (R : Bl × List (Bl × Nat)) (he : pnE en a s = 0) (hR : packN [] a.toNat (bs s).length (bs s) 0 = R) :
    CallOK Try.prog 0 42 [.pointer (some ⟨pb, 0, none⟩), .int .i64 a, .string s] H n (rnO pb none [] a R.1 R.2 H n) := by
  obtain ⟨k, rfl, hk, hen, hB, hlB, es⟩ := pnE_zero he
  obtain ⟨r, hF, H', m, wr, b, l, rfl, ⟨hb1, hbJ, w0⟩, g1, g2⟩ := rname0_fn k en (bs s) hk hen hB hlB
  rw [es] at hF
  rw [Int.toNat_natCast] at hR
  rw [hR] at g1 g2 hF
  obtain ⟨o, F⟩ := R
  have hcb : CallB Try.prog [pb] H (heap 1 [(0, .cells [.slice none 0 0, .int .i64 (en : Int)] 54)]) := callB_of ⟨⟨pb, _, rfl, h2, .same rfl⟩, trivial⟩
  have harg : RL (caR [pb]) [.pointer (some ⟨pb, 0, none⟩), .int .i64 (k : Int), .string s] [.pointer (some ⟨0, 0, none⟩), .int .i64 (k : Int), .string s] := .cons _ _ _ _ (.ptr _ _ _ rfl) (.cons _ _ _ _ (.int _ _) (.cons _ _ _ _ (.string _) .nil))
  have hw0 : ∀ j ob, (heap 1 [(0, AObj.cells [.slice none 0 0, .int .i64 (en : Int)] 54)]).get j = some ob → j < [pb].length → ¬ ob.isWin := fun j ob ho hj => by
    match j, hj, ho with
    | 0, _, ho => have ho : some (AObj.cells _ _) = some ob := ho; cases ho; exact fun h => h
    | j + 1, hj, _ => exact absurd (show j + 1 < 1 from hj) (by omega)
  have hw : ∀ j ∈ [pb], ∃ o, H.get j = some o ∧ ¬ o.isWin := fun j hj => by
    simp only [List.mem_singleton] at hj; subst hj; exact ⟨_, h2, fun h => h⟩
  rcases g2 with ⟨f0, g2⟩ | ⟨f0, ⟨hl1, hlJ, hlb⟩, g2, g3⟩
  · have f0 : F = [] := f0
    subst f0
    refine callOK_sets [pb] [b] [(pb, some (.cells [.slice none 0 0, .int .i64 ((k + o.length : Nat) : Int)] 54)), (n, some (.cells (o.map byV) 5))] hF (by simp) hcb harg hw0 hw (by simp) (fun x hx => by simp at hx; subst hx; exact ⟨hb1, hbJ, by rw [g1]; simp⟩)
      (.tuple _ _ (.cons _ _ _ _ (.sl _ _ _ _ _ (tau_new (A := [pb]) hb1)) (.cons _ _ _ _ (.int _ _) .nil))) (fun p hp => by simp at hp; rcases hp with rfl | rfl <;> simp) (fun q j e1 _ => .inl (by have := List.mem_of_getElem? e1; simp at this; subst this; simp)) (fun j ob hm => ?_)
    rcases List.mem_cons.1 hm with e | hm
    · cases e; exact ⟨0, _, tau_old rfl, g2, .same rfl, fun _ => w0⟩
    rcases List.mem_cons.1 hm with e | hm
    · cases e; exact ⟨b, _, tau_new (A := [pb]) hb1, g1, .same (byV_plain _), fun h => by have h : b < 1 := h; omega⟩
    · cases hm
  · obtain ⟨p, F, rfl⟩ : ∃ p F', F = p :: F' := by cases F with | nil => exact absurd rfl f0 | cons p F => exact ⟨p, F, rfl⟩
    have hBn : [b, l].Nodup := by simp [Ne.symm hlb]
    have t1 : tau [pb] [b, l] n b n := tau_at 0 hBn hb1 rfl
    have t2 : tau [pb] [b, l] n l (n + 1) := tau_at 1 hBn hl1 rfl
    refine callOK_sets [pb] [b, l] [(pb, some (.cells [.slice (some ⟨n + 1, 0, none⟩) ([] ++ p :: F).length U, .int .i64 ((k + o.length : Nat) : Int)] 54)), (n, some (.cells (o.map byV) 5)), (n + 1, some (.cells (([] ++ p :: F).flatMap layT.g) 97))] hF (by simp) hcb harg hw0 hw hBn (fun x hx => by
        simp only [List.mem_cons, List.not_mem_nil, or_false] at hx
        rcases hx with rfl | rfl
        · exact ⟨hb1, hbJ, by rw [g1]; simp⟩
        · exact ⟨hl1, hlJ, by rw [g3]; simp⟩)
      (.tuple _ _ (.cons _ _ _ _ (.sl _ _ _ _ _ t1) (.cons _ _ _ _ (.int _ _) .nil))) (fun p hp => by simp at hp; rcases hp with rfl | rfl | rfl <;> simp) (fun q j e1 _ => .inl (by have := List.mem_of_getElem? e1; simp at this; subst this; simp)) (fun j ob hm => ?_)
    rcases List.mem_cons.1 hm with e | hm
    · cases e; exact ⟨0, _, tau_old rfl, g2, box_ro _ _ _ t2 _ _, fun _ => w0⟩
    rcases List.mem_cons.1 hm with e | hm
    · cases e; exact ⟨b, _, t1, g1, .same (byV_plain _), fun h => by have h : b < 1 := h; omega⟩
    rcases List.mem_cons.1 hm with e | hm
    · cases e; exact ⟨l, _, t2, g3, .same (flat_plain layT.g layT.plain _), fun h => by have h : l < 1 := h; omega⟩
    · cases hm
set_option maxHeartbeats 8000000 in
theorem rn_ok1 (pb lb en : Nat) (T : List (Bl × Nat)) (a : Int) (s : ByteArray) (hs : shortB s = true) (hT : goodT T) (hTl : T.length ≤ 1000000000) (hT0 : T ≠ []) (H : Tr AObj) (n : Nat) (h2 : H.get pb = some (.cells [.slice (some ⟨lb, 0, none⟩) T.length U, .int .i64 (en : Int)] 54))
    (h3 : H.get lb = some (.cells (T.flatMap layT.g) 97)) (R : Bl × List (Bl × Nat)) (he : pnE en a s = 0) (hR : packN T a.toNat (bs s).length (bs s) 0 = R) :
    CallOK Try.prog 0 42 [.pointer (some ⟨pb, 0, none⟩), .int .i64 a, .string s] H n (rnO pb (some lb) T a R.1 R.2 H n) := by
  obtain ⟨k, rfl, hk, hen, hB, hlB, es⟩ := pnE_zero he
  obtain ⟨r, hF, H', m, wr, b, l, rfl, ⟨hb1, hbJ, w0⟩, hl, g1, g2, g3⟩ := rname_fn k en T (bs s) hk hen hT hTl hT0 hB hlB
  rw [es] at hF
  rw [Int.toNat_natCast] at hR
  rw [hR] at g1 g2 g3 hF hl
  obtain ⟨o, F⟩ := R
  have hne : pb ≠ lb := pb_ne h2 h3
  have hA : [pb, lb].Nodup := by simp [hne]
  have pT : plainL (T.flatMap layT.g) = true := flat_plain layT.g layT.plain _
  have hcb : CallB Try.prog [pb, lb] H (heap 2 [(0, .cells [.slice (some ⟨1, 0, none⟩) T.length U, .int .i64 (en : Int)] 54), (1, .cells (T.flatMap layT.g) 97)]) := callB_of ⟨⟨pb, _, rfl, h2, box_ro (caR [pb, lb]) lb 1 rfl _ _⟩, ⟨lb, _, rfl, h3, .same pT⟩, trivial⟩
  have harg : RL (caR [pb, lb]) [.pointer (some ⟨pb, 0, none⟩), .int .i64 (k : Int), .string s] [.pointer (some ⟨0, 0, none⟩), .int .i64 (k : Int), .string s] := .cons _ _ _ _ (.ptr _ _ _ rfl) (.cons _ _ _ _ (.int _ _) (.cons _ _ _ _ (.string _) .nil))
  have hw0 : ∀ j ob, (heap 2 [(0, AObj.cells [.slice (some ⟨1, 0, none⟩) T.length U, .int .i64 (en : Int)] 54), (1, .cells (T.flatMap layT.g) 97)]).get j = some ob → j < [pb, lb].length → ¬ ob.isWin := fun j ob ho hj => by
    match j, hj, ho with
    | 0, _, ho => have ho : some (AObj.cells _ _) = some ob := ho; cases ho; exact fun h => h
    | 1, _, ho => have ho : some (AObj.cells _ _) = some ob := ho; cases ho; exact fun h => h
    | j + 2, hj, _ => exact absurd (show j + 2 < 2 from hj) (by omega)
  have hw : ∀ j ∈ [pb, lb], ∃ o, H.get j = some o ∧ ¬ o.isWin := fun j hj => by
    simp only [List.mem_cons, List.not_mem_nil, or_false] at hj
    rcases hj with rfl | rfl
    · exact ⟨_, h2, fun h => h⟩
    · exact ⟨_, h3, fun h => h⟩
  rcases hl with ⟨f0, rfl⟩ | ⟨f0, hl1, hlJ, hlb, w1⟩
  · have f0 : F = [] := f0
    subst f0
    rw [List.append_nil] at g2 g3
    refine callOK_sets [pb, lb] [b] [(pb, some (.cells [.slice (some ⟨lb, 0, none⟩) T.length U, .int .i64 ((k + o.length : Nat) : Int)] 54)), (n, some (.cells (o.map byV) 5))] hF hA hcb harg hw0 hw (by simp) (fun x hx => by simp at hx; subst hx; exact ⟨hb1, hbJ, by rw [g1]; simp⟩)
      (.tuple _ _ (.cons _ _ _ _ (.sl _ _ _ _ _ (tau_new (A := [pb, lb]) hb1)) (.cons _ _ _ _ (.int _ _) .nil))) (fun p hp => by simp at hp; rcases hp with rfl | rfl <;> simp) (fun q j e1 _ => ?_) (fun j ob hm => ?_)
    · match q, e1 with
      | 0, e1 => cases e1; exact .inl (by simp)
      | 1, e1 => cases e1; exact .inr ⟨_, _, h3, g3, .same pT⟩
      | q + 2, e1 => simp at e1
    rcases List.mem_cons.1 hm with e | hm
    · cases e; exact ⟨0, _, tau_old rfl, g2, box_ro _ _ _ (tau_old rfl) _ _, fun _ => w0⟩
    rcases List.mem_cons.1 hm with e | hm
    · cases e; exact ⟨b, _, tau_new (A := [pb, lb]) hb1, g1, .same (byV_plain _), fun h => by have h : b < 2 := h; omega⟩
    · cases hm
  · obtain ⟨p, F, rfl⟩ : ∃ p F', F = p :: F' := by cases F with | nil => exact absurd rfl f0 | cons p F => exact ⟨p, F, rfl⟩
    have hBn : [b, l].Nodup := by simp [Ne.symm hlb]
    have t1 : tau [pb, lb] [b, l] n b n := tau_at 0 hBn hb1 rfl
    have t2 : tau [pb, lb] [b, l] n l (n + 1) := tau_at 1 hBn hl1 rfl
    refine callOK_sets [pb, lb] [b, l] [(pb, some (.cells [.slice (some ⟨n + 1, 0, none⟩) (T ++ p :: F).length U, .int .i64 ((k + o.length : Nat) : Int)] 54)), (lb, none), (n, some (.cells (o.map byV) 5)), (n + 1, some (.cells ((T ++ p :: F).flatMap layT.g) 97))] hF hA hcb harg hw0 hw hBn (fun x hx => by
        simp only [List.mem_cons, List.not_mem_nil, or_false] at hx
        rcases hx with rfl | rfl
        · exact ⟨hb1, hbJ, by rw [g1]; simp⟩
        · exact ⟨hl1, hlJ, by rw [g3]; simp⟩)
      (.tuple _ _ (.cons _ _ _ _ (.sl _ _ _ _ _ t1) (.cons _ _ _ _ (.int _ _) .nil))) (fun p hp => by simp at hp; rcases hp with rfl | rfl | rfl | rfl <;> simp) (fun q j e1 _ => .inl (by have := List.mem_of_getElem? e1; simp at this; rcases this with rfl | rfl <;> simp)) (fun j ob hm => ?_)
    rcases List.mem_cons.1 hm with e | hm
    · cases e; exact ⟨0, _, tau_old rfl, g2, box_ro _ _ _ t2 _ _, fun _ => w0⟩
    rcases List.mem_cons.1 hm with e | hm
    · cases e
    rcases List.mem_cons.1 hm with e | hm
    · cases e; exact ⟨b, _, t1, g1, .same (byV_plain _), fun h => by have h : b < 2 := h; omega⟩
    rcases List.mem_cons.1 hm with e | hm
    · cases e; exact ⟨l, _, t2, g3, .same (flat_plain layT.g layT.plain _), fun h => by have h : l < 2 := h; omega⟩
    · cases hm
noncomputable def ct_rname : Ct Try.prog 0 :=
  CtR.ct { f := 42, X := RnX,
           pre := fun x as0 H _ => as0 = [.pointer (some ⟨x.pb, 0, none⟩), .int .i64 x.a, .string x.s] ∧ H.get x.pb = some (.cells [rnV x.v x.T, .int .i64 (x.en : Int)] 54) ∧ rnAt x.v x.T H ∧ goodT x.T ∧ x.T.length ≤ 1000000000 ∧ shortB x.s = true ∧ pnR x.en x.T x.a x.s x.er x.o x.F,
           out := RnX.res,
           tr := fun x H n K => match x.er with
             | true => K (.ret (.tuple #[.slice none 0 0, .int .i64 (pnE x.en x.a x.s)]) H n [])
             | false => frcN x.pb fun pb => match x.v with
               | none => K (rnO pb none x.T x.a x.o x.F H n)
               | some b => frcN b fun b => K (rnO pb (some b) x.T x.a x.o x.F H n),
           trOk := fun x H n K h => by
             obtain ⟨pb, v, en, T, a, s, er, o, F⟩ := x
             cases er with
             | true => exact h
             | false =>
               have h : (frcN pb fun pb => _) := h
               rw [frcN_eq] at h
               cases v with
               | none => exact h
               | some b =>
                 have h : (frcN b fun b => _) := h
                 rw [frcN_eq] at h
                 exact h,
           ok := fun x as0 H n ⟨h1, h2, h3, h4, h5, h6, h7⟩ => by
             subst h1
             obtain ⟨pb, v, en, T, a, s, er, o, F⟩ := x
             have h7 : pnR en T a s er o F := h7
             cases v with
             | none =>
               have h3 : T = [] := h3
               subst h3
               have h2 : H.get pb = some (.cells [.slice none 0 0, .int .i64 (en : Int)] 54) := h2
               cases er with
               | true =>
                 obtain ⟨r, hF, H', m, wr, rfl, hw⟩ := rnameE0_fn a en s h6 h7.ne
                 exact callOK_reads [pb] hF hw dup_one (.cons _ _ _ _ (.ptr _ _ _ rfl) (.cons _ _ _ _ (.int _ _) (.cons _ _ _ _ (.string _) .nil))) (callB_of ⟨⟨pb, _, rfl, h2, .same rfl⟩, trivial⟩) rfl
               | false =>
                 have := rn_ok0 pb en a s h6 H n h2 (o, F) h7.eq (h7.2 rfl)
                 cases F <;> exact this
             | some b =>
               obtain ⟨h3, hT0⟩ := h3
               have h2 : H.get pb = some (.cells [.slice (some ⟨b, 0, none⟩) T.length U, .int .i64 (en : Int)] 54) := h2
               cases er with
               | true =>
                 have pT : plainL (T.flatMap layT.g) = true := flat_plain layT.g layT.plain _
                 obtain ⟨r, hF, H', m, wr, rfl, hw⟩ := rnameE_fn a en (T.flatMap layT.g) pT T.length s h6 h7.ne
                 exact callOK_reads [pb, b] hF hw (dup_nodup (by simp [pb_ne h2 h3])) (.cons _ _ _ _ (.ptr _ _ _ rfl) (.cons _ _ _ _ (.int _ _) (.cons _ _ _ _ (.string _) .nil))) (callB_of ⟨⟨pb, _, rfl, h2, box_ro (caR [pb, b]) b 1 rfl _ _⟩, ⟨b, _, rfl, h3, .same pT⟩, trivial⟩) rfl
               | false =>
                 have := rn_ok1 pb b en T a s h6 h4 h5 hT0 H n h2 h3 (o, F) h7.eq (h7.2 rfl)
                 cases F <;> exact this,
           uniq := fun x y as0 H n ⟨h1, h2, h3, _, _, _, h7⟩ ⟨k1, k2, k3, _, _, _, k7⟩ => by
             obtain ⟨pb, v, en, T, a, s, er, o, F⟩ := x
             obtain ⟨pb', v', en', T', a', s', er', o', F'⟩ := y
             rw [h1] at k1
             simp only [List.cons.injEq, Value.pointer.injEq, Option.some.injEq, Addr.mk.injEq, and_true, Value.int.injEq, true_and, Value.string.injEq] at k1
             obtain ⟨rfl, rfl, rfl⟩ := k1
             obtain ⟨rfl, rfl, rfl⟩ := rn_pre h2 k2 h3 k3
             obtain ⟨rfl, e⟩ := pnR.uniq h7 k7
             cases er with
             | true => rfl
             | false => obtain ⟨rfl, rfl⟩ := e rfl; rfl }
end Go.Proofs.Ytjdecbfjpkpepaa
namespace Go.Proofs.Ytjdecbfjpkpepaa
open Go Go.RowKit
theorem packN_good {T : List (Bl × Nat)} (hT : goodT T) (a f : Nat) (t : Bl) (o : Nat) : goodT (T ++ (packN T a f t o).2) := by
  obtain ⟨h1, h2⟩ := packN_fresh T a f t o
  refine ⟨?_, fun p hp => ?_⟩
  · rw [List.map_append, List.nodup_append]
    refine ⟨hT.1, h2, fun x hx y hy e => ?_⟩
    subst e
    obtain ⟨q, hq, rfl⟩ := List.mem_map.1 hy
    exact lookT_none.1 (h1 q hq).1 hx
  · rcases List.mem_append.1 hp with h | h
    · exact hT.2 p h
    · exact (h1 p h).2.2
theorem packN1_len (T : List (Bl × Nat)) (a : Nat) : ∀ (f : Nat) (t : Bl) (o : Nat), (packN T a f t o).1.length ≤ t.length + 2
  | 0, _, _ => by simp [packN]
  | f + 1, t, o => by
    unfold packN
    by_cases hc : (t.getD 0 0).toNat = 0
    · simp only [hc, if_true]; simp
    · simp only [hc, if_false]
      cases hl : lookT T t with
      | some k => simp
      | none =>
        have ih := packN1_len T a f (t.drop ((t.getD 0 0).toNat + 1)) (o + (t.getD 0 0).toNat + 1)
        simp only [List.length_append, List.length_take, List.length_drop] at ih ⊢
        omega
def wrN (a : Int) (T : List (Bl × Nat)) : List (Bs × Bool) → Bl → List (Bl × Nat) → Nat → Int × Bl × List (Bl × Nat) × Nat
  | [], out, F, en => (0, out, F, en)
  | (s, false) :: ps, out, F, en => wrN a T ps (out ++ s) F en
  | (s, true) :: ps, out, F, en =>
    let at' := IntKind.i64.wrap (a + (out.length : Int))
    if pnE en at' (mkS s) ≠ 0 then (pnE en at' (mkS s), [], F, en)
    else let r := packN (T ++ F) at'.toNat s.length s 0
      wrN a T ps (out ++ r.1) (F ++ r.2) (at'.toNat + r.1.length)
def pcsD (t : Int) (l : Bs) : List (Bs × Bool) := match ptsT t with | none => [(l, false)] | some _ => outP t l
def wrD (en : Nat) (T : List (Bl × Nat)) (a t : Int) (l : Bs) : Int × Bl × List (Bl × Nat) × Nat :=
  if checkD t l ≠ 0 then (checkD t l, [], [], en) else wrN a T (pcsD t l) [] [] en
theorem wrN_good (a : Int) {T : List (Bl × Nat)} : ∀ (ps : List (Bs × Bool)) (out : Bl) (F : List (Bl × Nat)) (en : Nat), goodT (T ++ F) → goodT (T ++ (wrN a T ps out F en).2.2.1)
  | [], _, _, _, h => h
  | (s, false) :: ps, out, F, en, h => by unfold wrN; exact wrN_good a ps _ _ _ h
  | (s, true) :: ps, out, F, en, h => by
    unfold wrN
    simp only []
    split
    · exact h
    · refine wrN_good a ps _ _ _ ?_
      rw [← List.append_assoc]
      exact packN_good h _ _ _ _
theorem wrD_good {en : Nat} {T : List (Bl × Nat)} {a t : Int} {l : Bs} (h : goodT T) : goodT (T ++ (wrD en T a t l).2.2.1) := by
  unfold wrD
  split
  · simpa using h
  · exact wrN_good a _ _ _ _ (by simpa using h)
theorem pnE_pos {en : Nat} {a : Int} {s : ByteArray} (h : pnE en a s = 0) : (0 ≤ a ∧ a ≤ 65535) ∧ en ≤ a ∧ (labels (bs s)).2 = 0 ∧ (bs s).length ≤ 255 := by
  obtain ⟨k, rfl, h1, h2, h3, h4, _⟩ := pnE_zero h
  exact ⟨⟨by omega, by omega⟩, by omega, (labels_nm _).2 ⟨h3, h4⟩, h4⟩
theorem wrN_len (a : Int) {T : List (Bl × Nat)} : ∀ (ps : List (Bs × Bool)) (out : Bl) (F : List (Bl × Nat)) (en : Nat), (∀ s, (s, true) ∈ ps → s.length ≤ 255) →
    (wrN a T ps out F en).2.1.length ≤ out.length + sumL ps + 2 * ps.length ∧ (wrN a T ps out F en).2.2.1.length ≤ F.length + 257 * ps.length ∧ ((wrN a T ps out F en).2.2.2 ≤ en ∨ (wrN a T ps out F en).2.2.2 ≤ 65792)
  | [], _, _, _, _ => ⟨by simp [wrN, sumL], by simp [wrN], .inl (Nat.le_refl _)⟩
  | (s, false) :: ps, out, F, en, h => by
    unfold wrN
    obtain ⟨h1, h2, h3⟩ := wrN_len a (T := T) ps (out ++ s) F en (fun s hs => h s (List.mem_cons_of_mem _ hs))
    refine ⟨?_, by simp only [List.length_cons]; omega, h3⟩
    simp only [sumL, List.flatMap_cons, List.length_append, List.length_cons] at h1 ⊢; omega
  | (s, true) :: ps, out, F, en, h => by
    unfold wrN
    simp only []
    have hs := h s (List.mem_cons_self ..)
    split
    · exact ⟨by simp, by simp, .inl (Nat.le_refl _)⟩
    · rename_i he
      have hp := pnE_pos (Decidable.not_not.1 he)
      obtain ⟨r, hr⟩ : ∃ r, packN (T ++ F) (IntKind.i64.wrap (a + (out.length : Int))).toNat s.length s 0 = r := ⟨_, rfl⟩
      have l1 := packN1_len (T ++ F) (IntKind.i64.wrap (a + (out.length : Int))).toNat s.length s 0
      have l2 := packN2_len (T ++ F) (IntKind.i64.wrap (a + (out.length : Int))).toNat s.length s 0
      rw [hr] at l1 l2 ⊢
      obtain ⟨h1, h2, h3⟩ := wrN_len a (T := T) ps (out ++ r.1) (F ++ r.2) ((IntKind.i64.wrap (a + (out.length : Int))).toNat + r.1.length) (fun s hs => h s (List.mem_cons_of_mem _ hs))
      refine ⟨?_, ?_, .inr ?_⟩
      · simp only [sumL, List.flatMap_cons, List.length_append, List.length_cons] at h1 ⊢; omega
      · simp only [List.length_append, List.length_cons] at h2 ⊢; omega
      · rcases h3 with h3 | h3
        · omega
        · exact h3
theorem cuts_nm : ∀ (ps : List Pt) (l : Bs) (o : List (Bs × Bool)) (r : Bs), cuts ps l = some (o, r) → ∀ s, (s, true) ∈ o → (labels s).2 = 0 ∧ s.length ≤ 255
  | [], l, o, r, h, s, hs => by simp only [cuts, Option.some.injEq, Prod.mk.injEq] at h; obtain ⟨rfl, _⟩ := h; cases hs
  | p :: ps, l, o, r, h, s, hs => by
    simp only [cuts] at h
    cases hc : p.cut l with
    | none => rw [hc] at h; cases h
    | some n =>
      rw [hc] at h
      simp only [] at h
      obtain ⟨⟨o', r'⟩, h1, h2⟩ := Option.map_eq_some_iff.1 h
      simp only [Prod.mk.injEq] at h2
      obtain ⟨rfl, rfl⟩ := h2
      rcases List.mem_cons.1 hs with e | e
      · simp only [Prod.mk.injEq] at e
        obtain ⟨rfl, e2⟩ := e
        cases p with
        | nm =>
          obtain ⟨_, k2, k3, k4⟩ := front_take hc
          exact ⟨k4, by omega⟩
        | rest => cases e2
        | sz k => cases e2
      · exact cuts_nm ps _ _ _ h1 s e
theorem pcsD_ok {t : Int} {l : Bs} (h : checkD t l = 0) : (∀ s, (s, true) ∈ pcsD t l → (labels s).2 = 0 ∧ s.length ≤ 255) ∧ sumL (pcsD t l) = l.length ∧ (pcsD t l).length ≤ 3 ∧ l.length ≤ 65535 := by
  obtain ⟨h1, h2, h3, h4⟩ := check_zero h
  unfold pcsD
  cases hp : ptsT t with
  | none => exact ⟨fun s hs => by simp at hs, by simp [sumL], by simp, h3⟩
  | some ps =>
    obtain ⟨o, q1, q2⟩ := fits_out hp h4
    have e1 : outP t l = o := by unfold outP; rw [q2]
    obtain ⟨w1, w2⟩ := cuts_sum _ _ _ _ q1
    simp only [e1]
    refine ⟨cuts_nm _ _ _ _ q1, ?_, ?_, h3⟩
    · unfold sumL; rw [List.append_nil] at w2; rw [w2]
    · rw [w1]
      rcases ptsT_case hp with ⟨_, ⟨_, h⟩ | h⟩
      · exact h
      · rw [h]; decide
theorem zip_pcs : ∀ (ps : List Pt) (l : Bs) (o : List (Bs × Bool)) (r : Bs), cuts ps l = some (o, r) → (((ps.map Pt.pr).map Pr.i).zip (o.map (·.1))).map (fun x => (x.2, decide (x.1 = -1))) = o
  | [], l, o, r, h => by simp only [cuts, Option.some.injEq, Prod.mk.injEq] at h; obtain ⟨rfl, _⟩ := h; rfl
  | p :: ps, l, o, r, h => by
    simp only [cuts] at h
    cases hc : p.cut l with
    | none => rw [hc] at h; cases h
    | some n =>
      rw [hc] at h
      simp only [] at h
      obtain ⟨⟨o', r'⟩, h1, h2⟩ := Option.map_eq_some_iff.1 h
      simp only [Prod.mk.injEq] at h2
      obtain ⟨rfl, rfl⟩ := h2
      have ih := zip_pcs ps _ _ _ h1
      simp only [List.map_cons, List.zip_cons_cons, ih]
      congr 1
      cases p with
      | nm => rfl
      | rest => rfl
      | sz k =>
        have hk : ¬ (Pr.sz k).i = -1 := by show ¬ ((k : Nat) : Int) = -1; omega
        show (_, decide ((Pr.sz k).i = -1)) = _
        rw [decide_eq_false hk]; rfl
theorem pcsR_eq {t : Int} {l : Bs} (h : fitsD t l = true) : ((formL t).zip (rpO t l)).map (fun x => (x.2, decide (x.1 = -1))) = pcsD t l ∧ (formL t).length = (rpO t l).length := by
  unfold pcsD
  cases hp : ptsT t with
  | none =>
    have e : rpO t l = [l] := by unfold rpO; rw [prT_none hp]; simp [cutsR, Pr.cut]
    have e2 : formL t = [-3] := by rw [(prT_form t).1, prT_none hp]; rfl
    rw [e, e2]; exact ⟨rfl, rfl⟩
  | some ps =>
    obtain ⟨o, q1, q2⟩ := fits_out hp h
    have e1 : outP t l = o := by unfold outP; rw [q2]
    obtain ⟨w1, _⟩ := cuts_sum _ _ _ _ q1
    rw [rpO_of hp q2, (prT_form t).1, prT_some hp, zip_pcs ps l o [] q1]
    simp only [e1]
    exact ⟨trivial, by simp [w1]⟩
end Go.Proofs.Ytjdecbfjpkpepaa
namespace Go.Proofs.Ytjdecbfjpkpepaa
open Go Go.RowKit
noncomputable def tbWr : Tb Try.prog 0 := tbOf mixed [ct_pname, ct_rdcheck, ct_split]
theorem src_by {G : Gh} {b c sz : Nat} {l : Bl} (hs : sz = 1) (hG : (G b).bind AObj.look = some (l.map byV)) : srcCells G sz (.slice (some ⟨b, 0, none⟩) l.length c) = some (l.length, l.map byV) := by
  subst hs
  unfold srcCells
  cases hl : Nat.beq l.length 0 with
  | true =>
    have : l = [] := List.length_eq_zero_iff.1 (Nat.eq_of_beq_eq_true hl)
    subst this
    simp [hl]
  | false =>
    simp only [hl, cond_false, hG]
    rw [show (0 + l.length * 1).ble (l.map byV).length = true from Nat.ble_eq_true_of_le (by simp)]
    simp only [cond_true, List.drop_zero, Nat.mul_one]
    rw [List.take_of_length_le (by simp)]
theorem oneB (l : Bl) : oneL (l.map byV) = true := by
  induction l with
  | nil => rfl
  | cons x l ih =>
    unfold oneL at ih ⊢
    rw [List.map_cons, List.all_cons, ih]; rfl
theorem map_ro {σ : Nat → Nat → Prop} (T F G : List (Bl × Nat)) (ck : Nat) : RO Try.prog σ (.map (encT ((T ++ F) ++ G)) (ck + F.length + G.length)) (.map (encT (T ++ (F ++ G))) (ck + (F ++ G).length)) := by
  rw [← List.append_assoc, List.length_append, ← Nat.add_assoc]; exact RO.map _ _ _ (plain_rm _)
theorem pbox_ro {σ : Nat → Nat → Prop} (b b' : Nat) (h : σ b b') (en : Nat) : RO Try.prog σ (.cells [.map (some b), .int .i64 (en : Int)] 81) (.cells [.map (some b'), .int .i64 (en : Int)] 81) := RO.cells [_, _] [] _ _ (.cons _ _ _ _ (.map _ _ h) (.cons _ _ _ _ (.int _ _) .nil))
def wrE (a : Int) (ps : List (Bs × Bool)) (c : Nat) (T : List (Bl × Nat)) (ck : Nat) (i : Nat) (out : Bl) (F : List (Bl × Nat)) (en : Nat) (f : Nat → Option Value) : Fs := match out with
  | [] => ⟨slots 7 [(0, .pointer (some ⟨0, 0, none⟩)), (1, .int .i64 a), (15, .slice none 0 0), (40, .slice (some ⟨2, 0, none⟩) ps.length c), (41, .int .i64 ps.length), (42, .int .i64 (i : Int))] f, heap 3 [(0, .cells [.map (some 1), .int .i64 (en : Int)] 81), (1, .map (encT (T ++ F)) (ck + F.length)), (2, .cells (ps.flatMap pc) 70)], 3, [0, 1], []⟩
  | u :: us => ⟨slots 7 [(0, .pointer (some ⟨0, 0, none⟩)), (1, .int .i64 a), (15, .slice (some ⟨3, 0, none⟩) (us.length + 1) U), (40, .slice (some ⟨2, 0, none⟩) ps.length c), (41, .int .i64 ps.length), (42, .int .i64 (i : Int))] f, heap 3 [(0, .cells [.map (some 1), .int .i64 (en : Int)] 81), (1, .map (encT (T ++ F)) (ck + F.length)), (2, .cells (ps.flatMap pc) 70), (3, .cells ((u :: us).map byV) 5)], 4, [0, 1], []⟩
def wrS (a : Int) (ps : List (Bs × Bool)) (c : Nat) (T : List (Bl × Nat)) (ck : Nat) (x : Nat × Bl × List (Bl × Nat) × Nat) (f : Nat → Option Value) : Fs := wrE a ps c T ck x.1 x.2.1 x.2.2.1 x.2.2.2 f
set_option maxRecDepth 1000000 in
set_option maxHeartbeats 16000000 in
theorem wr_loop (a : Int) (ps : List (Bs × Bool)) (c : Nat) (T : List (Bl × Nat)) (ck en0 : Nat) (hT : goodT T) (hps : ∀ p ∈ ps, p.1.length ≤ 65535) (hl : ps.length ≤ 1000) (R : Int × Bl × List (Bl × Nat) × Nat) (hR : wrN a T ps [] [] en0 = R) {s0 : Fs} {K : Ex → Fs → Prop}
    (h0 : ∃ f, RcM Try.prog 0 2 (4 + (Try.f27.ntmps - 4)) none s0 (wrS a ps c T ck (0, [], [], en0) f))
    (hex : ∀ out F en f, R = (0, out, F, en) → out.length ≤ 100000000 → K (.exit 0) (wrE a ps c T ck ps.length out F en f))
    (hret : ∀ (e : Int) (F : List (Bl × Nat)) (en : Nat) f, e ≠ 0 → R = (e, [], F, en) → K .ret ⟨slots 7 [(8, .slice none 0 0), (9, .int .i64 e)] f, heap 3 [(0, .cells [.map (some 1), .int .i64 (en : Int)] 81), (1, .map (encT (T ++ F)) (ck + F.length))], 2, [0, 1], []⟩) :
    LW Try.prog 0 2 (4 + (Try.f27.ntmps - 4)) none (loopAt Try.f27 0) s0 K := by
  have h1s : (Try.prog.types[5]).size = 1 := by kernel_rfl
  have hby : (Try.prog.types[5]).bytes = 1 := by kernel_rfl
  have h2s : (Try.prog.types[70]).size = 2 := by kernel_rfl
  have pP : plainL (ps.flatMap pc) = true := flat_plain _ pc_plain ps
  refine loop_goX (wrS a ps c T ck) (fun x => ps.length - x.1) (fun x => x.1 ≤ ps.length ∧ goodT (T ++ x.2.2.1) ∧ x.2.1.length ≤ 70000 * x.1 ∧ wrN a T (ps.drop x.1) x.2.1 x.2.2.1 x.2.2.2 = R) (0, [], [], en0) ⟨Nat.zero_le _, by rw [List.append_nil]; exact hT, Nat.le_refl _, by rw [List.drop_zero]; exact hR⟩ h0 ?_
  rintro ⟨i, out, F, en⟩ f ⟨hi, hg, hol, hR⟩
  have hi : i ≤ ps.length := hi
  have hg : goodT (T ++ F) := hg
  have hol : out.length ≤ 70000 * i := hol
  have hR : wrN a T (ps.drop i) out F en = R := hR
  have hend : ¬ i < ps.length → i = ps.length ∧ R = (0, out, F, en) := fun h => by
    have e : i = ps.length := by omega
    rw [e, List.drop_length] at hR
    exact ⟨e, hR.symm⟩
  have step : ∀ (h : i < ps.length) (s : Bs) (b : Bool), ps[i] = (s, b) → wrN a T ((s, b) :: ps.drop (i + 1)) out F en = R ∧ s.length ≤ 65535 ∧ ((ps.flatMap pc).drop (i * 2)).take 2 = [.string (mkS s), .bool b] := fun h s b e => by
    refine ⟨by rw [← e, ← List.drop_eq_getElem_cons h]; exact hR, ?_, ?_⟩
    · have := hps _ (List.getElem_mem h)
      rw [e] at this; exact this
    · have := (flat_at pc 2 pc_len ps i h).2
      rw [e] at this; exact this
  have ldOK : ∀ (h : i < ps.length), 0 + ((i : Int)).toNat * (Try.prog.types[70]).size + (Try.prog.types[70]).size ≤ (ps.flatMap pc).length := fun h => by
    rw [h2s, Int.toNat_natCast, Nat.zero_add]; exact (flat_at pc 2 pc_len ps i h).1
  have hdrop : ∀ s b, wrN a T ((s, b) :: ps.drop (i + 1)) out F en = wrN a T ((s, b) :: ps.drop (i + 1)) out F en := fun _ _ => rfl
  cases out with
  | nil =>
    refine sx_ok tbWr [2, 4] 2 _ none mixed _ _ _ ?_
    refine ifK (fun h1 => ?_) (fun h1 => ?_)
    · have h1 : i < ps.length := by have := of_decide_eq_true h1; omega
      obtain ⟨s, b, hp⟩ : ∃ s b, ps[i] = (s, b) := ⟨_, _, rfl⟩
      obtain ⟨hR, hsl, hat⟩ := step h1 s b hp
      refine ifK (fun _ => ?_) (fun h2 => absurd h2 (by simp [inI]; omega))
      have hat2 : ((ps.flatMap pc).drop (0 + ((i : Int)).toNat * (Try.prog.types[70]).size)).take (Try.prog.types[70]).size = [.string (mkS s), .bool b] := by rw [h2s, Int.toNat_natCast, Nat.zero_add]; exact hat
      cases b with
      | false =>
        unfold wrN at hR
        refine Exists.intro (mkS s) (Exists.intro false (And.intro ⟨ldOK h1, hat2⟩ ?_))
        cases s with
        | nil =>
          refine ⟨(i + 1, [], F, en), ⟨h1, hg, by show 0 ≤ _; omega, by show wrN a T (ps.drop (i + 1)) _ F en = R; rw [List.append_nil] at hR; exact hR⟩, by show ps.length - (i + 1) < ps.length - i; omega, ?_⟩
          exact rc_slots [2] rfl rfl rfl (fun l e => by cases e) (by decide) (by decide) rfl rfl (wr_of rfl) ⟨⟨_, rfl, .ptr _ _ _ rfl⟩, ⟨_, rfl, .int _ _⟩, ⟨_, rfl, plain_rv 8 rfl⟩, ⟨_, rfl, .sl _ _ _ _ _ rfl⟩, ⟨_, rfl, .int _ _⟩, slot_int rfl (by rw [wrapN (by omega) (by omega)]; omega), trivial⟩ ⟨⟨by decide, _, rfl, pbox_ro 1 1 (by exact rfl) en⟩, ⟨by decide, _, rfl, RO.map _ _ _ (plain_rm _)⟩, ⟨by decide, _, rfl, (by first | exact .same (pP) | exact .sameW (pP))⟩, trivial⟩ .nil
        | cons x s =>
          refine And.intro (by rw [hby, Bool.and_eq_true]; exact ⟨decide_eq_true (show (x :: s).length * 1 ≤ 140737488355328 by omega), decide_eq_true (show (x :: s).length ≤ 9223372036854775807 by omega)⟩) ?_
          refine ⟨(i + 1, x :: s, F, en), ⟨h1, hg, by show (x :: s).length ≤ _; omega, by show wrN a T (ps.drop (i + 1)) (x :: s) F en = R; exact hR⟩, by show ps.length - (i + 1) < ps.length - i; omega, ?_⟩
          exact rc_slots [2, 4] rfl rfl rfl (fun l e => by cases e) (by decide) (by decide) rfl rfl (wr_of rfl) ⟨⟨_, rfl, .ptr _ _ _ rfl⟩, ⟨_, rfl, .int _ _⟩, ⟨_, rfl, .sl _ _ _ _ _ rfl⟩, ⟨_, rfl, .sl _ _ _ _ _ rfl⟩, ⟨_, rfl, .int _ _⟩, slot_int rfl (by rw [wrapN (by omega) (by omega)]; omega), trivial⟩ ⟨⟨by decide, _, rfl, pbox_ro 1 1 (by exact rfl) en⟩, ⟨by decide, _, rfl, RO.map _ _ _ (plain_rm _)⟩, ⟨by decide, _, rfl, (by first | exact .same (pP) | exact .sameW (pP))⟩, ⟨by decide, _, rfl, (by first | exact .same (byV_plain (x :: s)) | exact .sameW (byV_plain (x :: s)))⟩, trivial⟩ .nil
      | true =>
        obtain ⟨a', ha'⟩ : ∃ a', a' = IntKind.i64.wrap (a + ((0 : Nat) : Int)) := ⟨_, rfl⟩
        unfold wrN at hR
        simp only [show (List.length ([] : Bl)) = 0 from rfl, ← ha'] at hR
        have hsh : shortB (mkS s) = true := by unfold shortB; rw [size_mkS]; exact Nat.ble_eq_true_of_le (by omega)
        refine Exists.intro (mkS s) (Exists.intro true (And.intro ⟨ldOK h1, hat2⟩ ?_))
        by_cases he : pnE en a' (mkS s) ≠ 0
        · rw [if_pos he] at hR
          refine Exists.intro (⟨0, 1, en, T ++ F, ck + F.length, a', mkS s, true, [], []⟩ : PkX) (And.intro ⟨(by rw [ha'] <;> rfl), (show Tr.get _ 0 = some (AObj.cells [.map (some 1), .int .i64 (en : Int)] _) from rfl), (show Tr.get _ 1 = some (AObj.map (encT (T ++ F)) (ck + F.length)) from rfl), hg, hsh, (decide_eq_true he).symm, fun h => by cases h⟩ ?_)
          refine ifK (fun _ => ?_) (fun g => absurd (show pnE en a' (mkS s) = 0 by have g : (pnE en a' (mkS s) != 0) = false := g; simpa using g) he)
          refine And.intro rfl (rc_end (rc_slots [] rfl rfl rfl (fun l e => by cases e) (by decide) (by decide) rfl rfl (wr_of rfl) (d := 7) (d2 := 3) (lv := [(8, .slice none 0 0), (9, .int .i64 (pnE en a' (mkS s)))]) (bs := [(0, .cells [.map (some 1), .int .i64 (en : Int)] 81), (1, .map (encT (T ++ F)) (ck + F.length))]) (W := [0, 1]) (m := 2) (df := []) ⟨⟨_, rfl, plain_rv 8 rfl⟩, ⟨_, rfl, .int _ _⟩, trivial⟩ ⟨⟨by decide, _, rfl, pbox_ro 1 1 (by exact rfl) en⟩, ⟨by decide, _, rfl, RO.map _ _ _ (plain_rm _)⟩, trivial⟩ .nil) (fun f => ?_))
          exact hret _ F en f he hR.symm
        · rw [if_neg he] at hR
          have he : pnE en a' (mkS s) = 0 := Decidable.not_not.1 he
          have eb : bs (mkS s) = s := by simp [bs, mkS]
          obtain ⟨⟨p1, p2⟩, p3, p4, p5⟩ := pnE_pos he
          rw [eb] at p4 p5
          have hpos := ((labels_nm s).1 p4).1.pos
          obtain ⟨r, hr⟩ : ∃ r, packN (T ++ F) a'.toNat s.length s 0 = r := ⟨_, rfl⟩
          have hne := packN_ne (T ++ F) a'.toNat s.length s 0 hpos
          have hl1 := packN1_len (T ++ F) a'.toNat s.length s 0
          have hgd := packN_good hg a'.toNat s.length s 0
          rw [hr] at hne hl1 hgd hR
          obtain ⟨o, F'⟩ := r
          cases o with
          | nil => exact absurd rfl hne
          | cons v vs =>
            have hvl : vs.length + 1 ≤ s.length + 2 := hl1
            refine Exists.intro (⟨0, 1, en, T ++ F, ck + F.length, a', mkS s, false, v :: vs, F'⟩ : PkX) (And.intro ⟨(by rw [ha'] <;> rfl), (show Tr.get _ 0 = some (AObj.cells [.map (some 1), .int .i64 (en : Int)] _) from rfl), (show Tr.get _ 1 = some (AObj.map (encT (T ++ F)) (ck + F.length)) from rfl), hg, hsh, (decide_eq_false (not_not_intro he)).symm, fun _ => by rw [eb]; exact hr⟩ ?_)
            refine Exists.intro ((v :: vs).map byV) (And.intro (src_by (l := v :: vs) h1s rfl) ?_)
            refine And.intro (by rw [hby]; simp only [Bool.and_eq_true]; exact ⟨decide_eq_true (by simp; omega), decide_eq_true (by simp; omega)⟩) ?_
            refine ⟨(i + 1, v :: vs, F ++ F', a'.toNat + (vs.length + 1)), ⟨h1, by rw [← List.append_assoc]; exact hgd, by show (v :: vs).length ≤ _; simp; omega, by show wrN a T (ps.drop (i + 1)) _ _ _ = R; exact hR⟩, by show ps.length - (i + 1) < ps.length - i; omega, ?_⟩
            exact rc_slots [2, 5] rfl rfl rfl (fun l e => by cases e) (by decide) (by decide) rfl rfl (wr_of rfl) ⟨⟨_, rfl, .ptr _ _ _ rfl⟩, ⟨_, rfl, .int _ _⟩, ⟨_, rfl, .sl _ _ _ _ _ rfl⟩, ⟨_, rfl, .sl _ _ _ _ _ rfl⟩, ⟨_, rfl, .int _ _⟩, slot_int rfl (by rw [wrapN (by omega) (by omega)]; omega), trivial⟩ ⟨⟨by decide, _, rfl, pbox_ro 1 1 (by exact rfl) _⟩, ⟨by decide, _, rfl, map_ro T F F' ck⟩, ⟨by decide, _, rfl, (by first | exact .same (pP) | exact .sameW (pP))⟩, ⟨by decide, _, rfl, (by first | exact .same (byV_plain (v :: vs)) | exact .sameW (byV_plain (v :: vs)))⟩, trivial⟩ .nil
    · obtain ⟨e1, e2⟩ := hend (by have := of_decide_eq_false h1; omega)
      subst e1
      refine And.intro rfl (rc_end (rc_slots [2] rfl rfl rfl (fun l e => by cases e) (by decide) (by decide) rfl rfl (wr_of rfl) (d := 7) (d2 := 3) (lv := [(0, .pointer (some ⟨0, 0, none⟩)), (1, .int .i64 a), (15, .slice none 0 0), (40, .slice (some ⟨2, 0, none⟩) ps.length c), (41, .int .i64 ps.length), (42, .int .i64 ps.length)]) (bs := [(0, .cells [.map (some 1), .int .i64 (en : Int)] 81), (1, .map (encT (T ++ F)) (ck + F.length)), (2, .cells (ps.flatMap pc) 70)]) (W := [0, 1]) (m := 3) (df := []) ⟨⟨_, rfl, .ptr _ _ _ rfl⟩, ⟨_, rfl, .int _ _⟩, ⟨_, rfl, plain_rv 8 rfl⟩, ⟨_, rfl, .sl _ _ _ _ _ rfl⟩, ⟨_, rfl, .int _ _⟩, ⟨_, rfl, .int _ _⟩, trivial⟩ ⟨⟨by decide, _, rfl, pbox_ro 1 1 (by exact rfl) en⟩, ⟨by decide, _, rfl, RO.map _ _ _ (plain_rm _)⟩, ⟨by decide, _, rfl, (by first | exact .same (pP) | exact .sameW (pP))⟩, trivial⟩ .nil) (fun f => ?_))
      exact hex _ F en f e2 (by first | (show us.length + 1 ≤ _; have := hl; have := hol; omega) | simp)
  | cons u us =>
    have hol : us.length + 1 ≤ 70000 * i := hol
    refine sx_ok tbWr [2, 5] 2 _ none mixed _ _ _ ?_
    refine ifK (fun h1 => ?_) (fun h1 => ?_)
    · have h1 : i < ps.length := by have := of_decide_eq_true h1; omega
      obtain ⟨s, b, hp⟩ : ∃ s b, ps[i] = (s, b) := ⟨_, _, rfl⟩
      obtain ⟨hR, hsl, hat⟩ := step h1 s b hp
      refine ifK (fun _ => ?_) (fun h2 => absurd h2 (by simp [inI]; omega))
      have hat2 : ((ps.flatMap pc).drop (0 + ((i : Int)).toNat * (Try.prog.types[70]).size)).take (Try.prog.types[70]).size = [.string (mkS s), .bool b] := by rw [h2s, Int.toNat_natCast, Nat.zero_add]; exact hat
      cases b with
      | false =>
        unfold wrN at hR
        refine Exists.intro (mkS s) (Exists.intro false (And.intro ⟨ldOK h1, hat2⟩ ?_))
        cases s with
        | nil =>
          refine ⟨(i + 1, u :: us, F, en), ⟨h1, hg, by show us.length + 1 ≤ _; omega, by show wrN a T (ps.drop (i + 1)) _ F en = R; rw [List.append_nil] at hR; exact hR⟩, by show ps.length - (i + 1) < ps.length - i; omega, ?_⟩
          exact rc_slots [2, 3] rfl rfl rfl (fun l e => by cases e) (by decide) (by decide) rfl rfl (wr_of rfl) ⟨⟨_, rfl, .ptr _ _ _ rfl⟩, ⟨_, rfl, .int _ _⟩, ⟨_, rfl, .sl _ _ _ _ _ rfl⟩, ⟨_, rfl, .sl _ _ _ _ _ rfl⟩, ⟨_, rfl, .int _ _⟩, slot_int rfl (by rw [wrapN (by omega) (by omega)]; omega), trivial⟩ ⟨⟨by decide, _, rfl, pbox_ro 1 1 (by exact rfl) en⟩, ⟨by decide, _, rfl, RO.map _ _ _ (plain_rm _)⟩, ⟨by decide, _, rfl, (by first | exact .same (pP) | exact .sameW (pP))⟩, ⟨by decide, _, rfl, (by first | exact .same (byV_plain (u :: us)) | exact .sameW (byV_plain (u :: us)))⟩, trivial⟩ .nil
        | cons x s =>
          have hone : oneL ((x :: s).map byV) = true := oneB _
          have hsl : s.length + 1 ≤ 65535 := hsl
          refine And.intro (by rw [h1s, hby]; simp only [Bool.and_eq_true, decide_eq_true_eq]; exact ⟨⟨⟨⟨⟨⟨rfl, rfl⟩, Nat.ble_eq_true_of_le (by simp)⟩, hone⟩, (show (us.length + 1 + (s.length + 1)) * 1 ≤ 140737488355328 by omega)⟩, (show us.length + 1 + (s.length + 1) ≤ 9223372036854775807 by omega)⟩, Nat.ble_eq_true_of_le (by simp [mkS] <;> omega)⟩) ?_
          refine ⟨(i + 1, u :: (us ++ x :: s), F, en), ⟨h1, hg, by show (u :: (us ++ x :: s)).length ≤ _; simp at hsl ⊢; omega, by show wrN a T (ps.drop (i + 1)) _ F en = R; exact hR⟩, by show ps.length - (i + 1) < ps.length - i; omega, ?_⟩
          have ec : (List.take ((us.length + 1) * 1) (byV u :: us.map byV)) ++ (x :: s).map byV = (u :: (us ++ x :: s)).map byV := by rw [Nat.mul_one, List.take_of_length_le (by simp)]; simp
          have el : us.length + 1 + (x :: s).length = (us ++ x :: s).length + 1 := by simp; omega
          exact rc_slots [2, 5] rfl rfl rfl (fun l e => by cases e) (by decide) (by decide) rfl rfl (wr_of rfl) ⟨⟨_, rfl, .ptr _ _ _ rfl⟩, ⟨_, rfl, .int _ _⟩, ⟨_, rfl, by show RV _ (.slice _ (us.length + 1 + (x :: s).length) U) _; rw [el]; exact .sl _ _ _ _ _ rfl⟩, ⟨_, rfl, .sl _ _ _ _ _ rfl⟩, ⟨_, rfl, .int _ _⟩, slot_int rfl (by rw [wrapN (by omega) (by omega)]; omega), trivial⟩ ⟨⟨by decide, _, rfl, pbox_ro 1 1 (by exact rfl) en⟩, ⟨by decide, _, rfl, RO.map _ _ _ (plain_rm _)⟩, ⟨by decide, _, rfl, (by first | exact .same (pP) | exact .sameW (pP))⟩, ⟨by decide, _, rfl, ro_eq (by rw [← ec]; rfl) (byV_plain _)⟩, trivial⟩ .nil
      | true =>
        obtain ⟨a', ha'⟩ : ∃ a', a' = IntKind.i64.wrap (a + (((us.length + 1) : Nat) : Int)) := ⟨_, rfl⟩
        unfold wrN at hR
        simp only [show (List.length (u :: us)) = (us.length + 1) from rfl, ← ha'] at hR
        have hsh : shortB (mkS s) = true := by unfold shortB; rw [size_mkS]; exact Nat.ble_eq_true_of_le (by omega)
        refine Exists.intro (mkS s) (Exists.intro true (And.intro ⟨ldOK h1, hat2⟩ ?_))
        by_cases he : pnE en a' (mkS s) ≠ 0
        · rw [if_pos he] at hR
          refine Exists.intro (⟨0, 1, en, T ++ F, ck + F.length, a', mkS s, true, [], []⟩ : PkX) (And.intro ⟨(by rw [ha'] <;> rfl), (show Tr.get _ 0 = some (AObj.cells [.map (some 1), .int .i64 (en : Int)] _) from rfl), (show Tr.get _ 1 = some (AObj.map (encT (T ++ F)) (ck + F.length)) from rfl), hg, hsh, (decide_eq_true he).symm, fun h => by cases h⟩ ?_)
          refine ifK (fun _ => ?_) (fun g => absurd (show pnE en a' (mkS s) = 0 by have g : (pnE en a' (mkS s) != 0) = false := g; simpa using g) he)
          refine And.intro rfl (rc_end (rc_slots [] rfl rfl rfl (fun l e => by cases e) (by decide) (by decide) rfl rfl (wr_of rfl) (d := 7) (d2 := 3) (lv := [(8, .slice none 0 0), (9, .int .i64 (pnE en a' (mkS s)))]) (bs := [(0, .cells [.map (some 1), .int .i64 (en : Int)] 81), (1, .map (encT (T ++ F)) (ck + F.length))]) (W := [0, 1]) (m := 2) (df := []) ⟨⟨_, rfl, plain_rv 8 rfl⟩, ⟨_, rfl, .int _ _⟩, trivial⟩ ⟨⟨by decide, _, rfl, pbox_ro 1 1 (by exact rfl) en⟩, ⟨by decide, _, rfl, RO.map _ _ _ (plain_rm _)⟩, trivial⟩ .nil) (fun f => ?_))
          exact hret _ F en f he hR.symm
        · rw [if_neg he] at hR
          have he : pnE en a' (mkS s) = 0 := Decidable.not_not.1 he
          have eb : bs (mkS s) = s := by simp [bs, mkS]
          obtain ⟨⟨p1, p2⟩, p3, p4, p5⟩ := pnE_pos he
          rw [eb] at p4 p5
          have hpos := ((labels_nm s).1 p4).1.pos
          obtain ⟨r, hr⟩ : ∃ r, packN (T ++ F) a'.toNat s.length s 0 = r := ⟨_, rfl⟩
          have hne := packN_ne (T ++ F) a'.toNat s.length s 0 hpos
          have hl1 := packN1_len (T ++ F) a'.toNat s.length s 0
          have hgd := packN_good hg a'.toNat s.length s 0
          rw [hr] at hne hl1 hgd hR
          obtain ⟨o, F'⟩ := r
          cases o with
          | nil => exact absurd rfl hne
          | cons v vs =>
            have hvl : vs.length + 1 ≤ s.length + 2 := hl1
            refine Exists.intro (⟨0, 1, en, T ++ F, ck + F.length, a', mkS s, false, v :: vs, F'⟩ : PkX) (And.intro ⟨(by rw [ha'] <;> rfl), (show Tr.get _ 0 = some (AObj.cells [.map (some 1), .int .i64 (en : Int)] _) from rfl), (show Tr.get _ 1 = some (AObj.map (encT (T ++ F)) (ck + F.length)) from rfl), hg, hsh, (decide_eq_false (not_not_intro he)).symm, fun _ => by rw [eb]; exact hr⟩ ?_)
            refine Exists.intro ((v :: vs).map byV) (And.intro (src_by (l := v :: vs) h1s rfl) ?_)
            have hone : oneL ((v :: vs).map byV) = true := oneB _
            refine And.intro (by rw [h1s, hby]; simp only [Bool.and_eq_true, decide_eq_true_eq]; exact ⟨⟨⟨⟨⟨⟨rfl, rfl⟩, Nat.ble_eq_true_of_le (by simp)⟩, hone⟩, (by simp; omega)⟩, (by simp; omega)⟩, Nat.ble_eq_true_of_le (by simp <;> omega)⟩) ?_
            have ec : (List.take ((us.length + 1) * 1) (byV u :: us.map byV)) ++ (v :: vs).map byV = (u :: (us ++ v :: vs)).map byV := by rw [Nat.mul_one, List.take_of_length_le (by simp)]; simp
            have el : us.length + 1 + (v :: vs).length = (us ++ v :: vs).length + 1 := by simp; omega
            refine ⟨(i + 1, u :: (us ++ v :: vs), F ++ F', a'.toNat + (vs.length + 1)), ⟨h1, by rw [← List.append_assoc]; exact hgd, by show (u :: (us ++ v :: vs)).length ≤ _; simp; omega, by show wrN a T (ps.drop (i + 1)) _ _ _ = R; exact hR⟩, by show ps.length - (i + 1) < ps.length - i; omega, ?_⟩
            exact rc_slots [2, 6] rfl rfl rfl (fun l e => by cases e) (by decide) (by decide) rfl rfl (wr_of rfl) ⟨⟨_, rfl, .ptr _ _ _ rfl⟩, ⟨_, rfl, .int _ _⟩, ⟨_, rfl, by show RV _ (.slice _ (us.length + 1 + (v :: vs).length) U) _; rw [el]; exact .sl _ _ _ _ _ rfl⟩, ⟨_, rfl, .sl _ _ _ _ _ rfl⟩, ⟨_, rfl, .int _ _⟩, slot_int rfl (by rw [wrapN (by omega) (by omega)]; omega), trivial⟩ ⟨⟨by decide, _, rfl, pbox_ro 1 1 (by exact rfl) _⟩, ⟨by decide, _, rfl, map_ro T F F' ck⟩, ⟨by decide, _, rfl, (by first | exact .same (pP) | exact .sameW (pP))⟩, ⟨by decide, _, rfl, ro_eq (by rw [← ec]; rfl) (byV_plain _)⟩, trivial⟩ .nil
    · obtain ⟨e1, e2⟩ := hend (by have := of_decide_eq_false h1; omega)
      subst e1
      refine And.intro rfl (rc_end (rc_slots [2, 3] rfl rfl rfl (fun l e => by cases e) (by decide) (by decide) rfl rfl (wr_of rfl) (d := 7) (d2 := 3) (lv := [(0, .pointer (some ⟨0, 0, none⟩)), (1, .int .i64 a), (15, .slice (some ⟨3, 0, none⟩) (us.length + 1) U), (40, .slice (some ⟨2, 0, none⟩) ps.length c), (41, .int .i64 ps.length), (42, .int .i64 ps.length)]) (bs := [(0, .cells [.map (some 1), .int .i64 (en : Int)] 81), (1, .map (encT (T ++ F)) (ck + F.length)), (2, .cells (ps.flatMap pc) 70), (3, .cells ((u :: us).map byV) 5)]) (W := [0, 1]) (m := 4) (df := []) ⟨⟨_, rfl, .ptr _ _ _ rfl⟩, ⟨_, rfl, .int _ _⟩, ⟨_, rfl, .sl _ _ _ _ _ rfl⟩, ⟨_, rfl, .sl _ _ _ _ _ rfl⟩, ⟨_, rfl, .int _ _⟩, ⟨_, rfl, .int _ _⟩, trivial⟩ ⟨⟨by decide, _, rfl, pbox_ro 1 1 (by exact rfl) en⟩, ⟨by decide, _, rfl, RO.map _ _ _ (plain_rm _)⟩, ⟨by decide, _, rfl, (by first | exact .same (pP) | exact .sameW (pP))⟩, ⟨by decide, _, rfl, (by first | exact .same (byV_plain (u :: us)) | exact .sameW (byV_plain (u :: us)))⟩, trivial⟩ .nil) (fun f => ?_))
      exact hex _ F en f e2 (by first | (show us.length + 1 ≤ _; have := hl; have := hol; omega) | simp)
end Go.Proofs.Ytjdecbfjpkpepaa
namespace Go.Proofs.Ytjdecbfjpkpepaa
open Go Go.RowKit
noncomputable def tbWq : Tb Try.prog 0 := tbOf mixed [ct_rrdcheck, ct_form, ct_rparts, ct_rname]
def pcZ (x : Int × Bs) : Bs × Bool := (x.2, decide (x.1 = -1))
theorem flat_eqT {T F G : List (Bl × Nat)} : (((T ++ F) ++ G).flatMap layT.g) = ((T ++ (F ++ G)).flatMap layT.g) := by rw [List.append_assoc]
theorem pT_all (T : List (Bl × Nat)) : plainL (T.flatMap layT.g) = true := flat_plain layT.g layT.plain _
theorem rbox_ro {σ : Nat → Nat → Prop} (k b : Nat) (h : σ k b) {c c' : Nat} (e : c = c') (en : Nat) : RO Try.prog σ (.cells [.slice (some ⟨k, 0, none⟩) c U, .int .i64 (en : Int)] 54) (.cells [.slice (some ⟨b, 0, none⟩) c' U, .int .i64 (en : Int)] 54) := by subst e; exact box_ro σ k b h c en
theorem len_assoc {T F G : List (Bl × Nat)} : (T ++ F ++ G).length = (T ++ (F ++ G)).length := by rw [List.append_assoc]
set_option maxRecDepth 1000000 in
theorem byte_one : (Try.prog.types[5]).size = 1 ∧ (Try.prog.types[5]).bytes = 1 := ⟨by kernel_rfl, by kernel_rfl⟩
set_option maxRecDepth 1000000 in
theorem app_ok {u : UInt8} {us o : Bl} (h1 : us.length ≤ 100000000) (h2 : o.length ≤ 100000000) (h3 : 0 < o.length) : (Nat.beq 0 0 && Nat.beq 5 5 && ((us.length + 1) * (Try.prog.types[5]).size).ble ((u :: us).map byV).length && oneL (o.map byV) && decide ((us.length + 1 + o.length) * (Try.prog.types[5]).bytes ≤ 140737488355328) && decide (us.length + 1 + o.length ≤ 9223372036854775807) && ((u :: us).map byV).length.blt (0 + (us.length + 1) * (Try.prog.types[5]).size + (o.map byV).length)) = true := by
  rw [byte_one.1, byte_one.2]; simp only [Bool.and_eq_true, decide_eq_true_eq]
  exact ⟨⟨⟨⟨⟨⟨rfl, (by simp)⟩, Nat.ble_eq_true_of_le (by simp)⟩, oneB _⟩, (by omega)⟩, (by omega)⟩, Nat.ble_eq_true_of_le (by simp <;> omega)⟩
set_option maxRecDepth 1000000 in
theorem app0_ok {o : Bl} (h : o.length ≤ 100000000) : (decide (o.length * (Try.prog.types[5]).bytes ≤ 140737488355328) && decide (o.length ≤ 9223372036854775807)) = true := by
  rw [byte_one.2, Bool.and_eq_true]; exact ⟨decide_eq_true (by omega), decide_eq_true (by omega)⟩
theorem cat_by {σ : Nat → Nat → Prop} (u : UInt8) (us o : Bl) : RO Try.prog σ (.cells (List.take ((us.length + 1) * 1) (byV u :: us.map byV) ++ o.map byV) 5) (.cells ((u :: (us ++ o)).map byV) 5) := by
  refine ro_eq ?_ (byV_plain _)
  rw [Nat.mul_one, List.take_of_length_le (by simp)]; simp
theorem cat_len {us : Bl} {o : Bl} : us.length + 1 + o.length = (us ++ o).length + 1 := by simp; omega
def rwoE (a : Int) (Z : List (Int × Bs)) (T : List (Bl × Nat)) (i : Nat) (out : Bl) (F : List (Bl × Nat)) (en : Nat) (f : Nat → Option Value) : Fs := match out, F with
  | [], _ => ⟨slots 7 [(0, .pointer (some ⟨0, 0, none⟩)), (1, .int .i64 a), (11, .slice (some ⟨2, 0, none⟩) Z.length Z.length), (12, .slice (some ⟨3, 0, none⟩) Z.length U), (14, .slice none 0 0), (15, .int .i64 (i : Int))] f, heap 4 [(0, .cells [.slice (some ⟨1, 0, none⟩) T.length U, .int .i64 (en : Int)] 54), (1, .cells (T.flatMap layT.g) 97), (2, .cells (Z.map zi) 3), (3, .cells (Z.map zs) 9)], 4, [0, 1], []⟩
  | u :: us, [] => ⟨slots 7 [(0, .pointer (some ⟨0, 0, none⟩)), (1, .int .i64 a), (11, .slice (some ⟨2, 0, none⟩) Z.length Z.length), (12, .slice (some ⟨3, 0, none⟩) Z.length U), (14, .slice (some ⟨4, 0, none⟩) (us.length + 1) U), (15, .int .i64 (i : Int))] f, heap 4 [(0, .cells [.slice (some ⟨1, 0, none⟩) T.length U, .int .i64 (en : Int)] 54), (1, .cells (T.flatMap layT.g) 97), (2, .cells (Z.map zi) 3), (3, .cells (Z.map zs) 9), (4, .cells ((u :: us).map byV) 5)], 5, [0, 1], []⟩
  | u :: us, p :: F => ⟨slots 7 [(0, .pointer (some ⟨0, 0, none⟩)), (1, .int .i64 a), (11, .slice (some ⟨2, 0, none⟩) Z.length Z.length), (12, .slice (some ⟨3, 0, none⟩) Z.length U), (14, .slice (some ⟨5, 0, none⟩) (us.length + 1) U), (15, .int .i64 (i : Int))] f, heap 4 [(0, .cells [.slice (some ⟨4, 0, none⟩) (T ++ p :: F).length U, .int .i64 (en : Int)] 54), (2, .cells (Z.map zi) 3), (3, .cells (Z.map zs) 9), (4, .cells ((T ++ p :: F).flatMap layT.g) 97), (5, .cells ((u :: us).map byV) 5)], 6, [0, 1], []⟩
def rwoS (a : Int) (Z : List (Int × Bs)) (T : List (Bl × Nat)) (x : Nat × Bl × List (Bl × Nat) × Nat) (f : Nat → Option Value) : Fs := rwoE a Z T x.1 x.2.1 x.2.2.1 x.2.2.2 f
def rwoR (a : Int) (T : List (Bl × Nat)) (F : List (Bl × Nat)) (en : Nat) (e : Int) (f : Nat → Option Value) : Fs := match F with
  | [] => ⟨slots 7 [(8, .slice none 0 0), (9, .int .i64 e)] f, heap 3 [(0, .cells [.slice (some ⟨1, 0, none⟩) T.length U, .int .i64 (en : Int)] 54), (1, .cells (T.flatMap layT.g) 97)], 2, [0, 1], []⟩
  | p :: F => ⟨slots 7 [(8, .slice none 0 0), (9, .int .i64 e)] f, heap 3 [(0, .cells [.slice (some ⟨2, 0, none⟩) (T ++ p :: F).length U, .int .i64 (en : Int)] 54), (2, .cells ((T ++ p :: F).flatMap layT.g) 97)], 3, [0, 1], []⟩
set_option maxRecDepth 1000000 in
set_option maxHeartbeats 16000000 in
theorem rwo_loop (a : Int) (Z : List (Int × Bs)) (T : List (Bl × Nat)) (en0 : Nat) (hT : goodT T) (hT0 : T ≠ []) (hTl : T.length ≤ 900000000) (hps : ∀ p ∈ Z, p.2.length ≤ 65535) (hl : Z.length ≤ 1000) (R : Int × Bl × List (Bl × Nat) × Nat) (hR : wrN a T (Z.map pcZ) [] [] en0 = R) {s0 : Fs} {K : Ex → Fs → Prop}
    (h0 : ∃ f, RcM Try.prog 0 2 (4 + (Try.f28.ntmps - 4)) none s0 (rwoS a Z T (0, [], [], en0) f))
    (hex : ∀ out F en f, R = (0, out, F, en) → (out = [] → F = []) → out.length ≤ 100000000 → K (.exit 0) (rwoE a Z T Z.length out F en f))
    (hret : ∀ (e : Int) (F : List (Bl × Nat)) (en : Nat) f, e ≠ 0 → R = (e, [], F, en) → K .ret (rwoR a T F en e f)) :
    LW Try.prog 0 2 (4 + (Try.f28.ntmps - 4)) none (loopAt Try.f28 0) s0 K := by
  have h1s : (Try.prog.types[5]).size = 1 := by kernel_rfl
  have h3s : (Try.prog.types[3]).size = 1 := by kernel_rfl
  have h9s : (Try.prog.types[9]).size = 1 := by kernel_rfl
  refine loop_goX (rwoS a Z T ) (fun x => Z.length - x.1) (fun x => x.1 ≤ Z.length ∧ goodT (T ++ x.2.2.1) ∧ x.2.1.length ≤ 70000 * x.1 ∧ x.2.2.1.length ≤ 257 * x.1 ∧ (x.2.1 = [] → x.2.2.1 = []) ∧ wrN a T ((Z.map pcZ).drop x.1) x.2.1 x.2.2.1 x.2.2.2 = R) (0, [], [], en0) ⟨Nat.zero_le _, by rw [List.append_nil]; exact hT, Nat.le_refl _, Nat.le_refl _, fun _ => rfl, by rw [List.drop_zero]; exact hR⟩ h0 ?_
  rintro ⟨i, out, F, en⟩ f ⟨hi, hg, hol, hFl, hoF, hR⟩
  have hi : i ≤ Z.length := hi
  have hg : goodT (T ++ F) := hg
  have hol : out.length ≤ 70000 * i := hol
  have hFl : F.length ≤ 257 * i := hFl
  have hoF : out = [] → F = [] := hoF
  have hR : wrN a T ((Z.map pcZ).drop i) out F en = R := hR
  have hend : ¬ i < Z.length → i = Z.length ∧ R = (0, out, F, en) := fun h => by
    have e : i = Z.length := by omega
    rw [e, List.drop_of_length_le (by simp)] at hR
    exact ⟨e, hR.symm⟩
  have step : ∀ (h : i < Z.length) (k : Int) (s : Bs), Z[i] = (k, s) → wrN a T ((s, decide (k = -1)) :: (Z.map pcZ).drop (i + 1)) out F en = R ∧ s.length ≤ 65535 ∧ (Z.map zs)[0 + ((i : Int)).toNat * (Try.prog.types[9]).size]? = some (.string (mkS s)) ∧ (Z.map zi)[0 + ((i : Int)).toNat * (Try.prog.types[3]).size]? = some (.int .i64 k) := fun h k s e => by
    have hm : i < (Z.map pcZ).length := by rw [List.length_map]; exact h
    refine ⟨?_, ?_, ?_, ?_⟩
    · rw [← hR, List.drop_eq_getElem_cons hm, List.getElem_map, e]; rfl
    · have := hps _ (List.getElem_mem h)
      rw [e] at this; exact this
    · rw [h9s, Int.toNat_natCast, Nat.zero_add, Nat.mul_one]; simp [h, e, zs, str, mkS]
    · rw [h3s, Int.toNat_natCast, Nat.zero_add, Nat.mul_one]; simp [h, e, zi, intV]
  cases out with
  | nil =>
    have hF0 : F = [] := hoF rfl
    subst hF0
    have hFT : goodT (T ++ ([] : List (Bl × Nat))) := hg
    refine sx_ok tbWq [2, 3, 4, 5] 2 _ none mixed _ _ _ ?_
    refine ifK (fun h1 => ?_) (fun h1 => ?_)
    · have h1 : i < Z.length := by have := of_decide_eq_true h1; omega
      obtain ⟨k, s, hp⟩ : ∃ k s, Z[i] = (k, s) := ⟨_, _, rfl⟩
      obtain ⟨hR, hsl, hat1, hat2⟩ := step h1 k s hp
      have hdom : inI (i : Int) Z.length = true := by simp [inI]; omega
      refine ifK (fun _ => ?_) (fun h2 => absurd (hdom.symm.trans h2) (by decide))
      refine Exists.intro (mkS s) (And.intro hat1 ?_)
      refine ifK (fun _ => ?_) (fun h2 => absurd (of_decide_eq_false h2) (not_not_intro (show s.length ≤ 9223372036854775807 by omega)))
      refine ifK (fun _ => ?_) (fun h2 => absurd (hdom.symm.trans h2) (by decide))
      refine Exists.intro k (And.intro hat2 ?_)
      refine ifK (fun hk => ?_) (fun hk => ?_)
      · have hk : k = -1 := by simpa using hk
        rw [decide_eq_true hk] at hR
        refine ifK (fun _ => ?_) (fun h2 => absurd (hdom.symm.trans h2) (by decide))
        refine Exists.intro (mkS s) (And.intro hat1 ?_)
        obtain ⟨a', ha'⟩ : ∃ a', a' = IntKind.i64.wrap (a + ((0 : Nat) : Int)) := ⟨_, rfl⟩
        unfold wrN at hR
        simp only [show (List.length ([] : Bl)) = 0 from rfl, ← ha'] at hR
        have hsh : shortB (mkS s) = true := by unfold shortB; rw [size_mkS]; exact Nat.ble_eq_true_of_le (by omega)
        have hTT : (T ++ ([] : List (Bl × Nat))).length ≤ 1000000000 := by have := hFl; simp only [List.length_append] at this ⊢; simp at this ⊢ <;> omega
        by_cases he : pnE en a' (mkS s) ≠ 0
        · rw [if_pos he] at hR
          refine Exists.intro (⟨0, some 1, en, T ++ ([] : List (Bl × Nat)), a', mkS s, true, [], []⟩ : RnX) (And.intro ⟨(by rw [ha'] <;> rfl), (show Tr.get _ 0 = some (AObj.cells [.slice (some ⟨1, 0, none⟩) (T ++ ([] : List (Bl × Nat))).length U, .int .i64 (en : Int)] _) from (by rw [List.append_nil] <;> rfl)), ⟨(show Tr.get _ 1 = some (AObj.cells ((T ++ ([] : List (Bl × Nat))).flatMap layT.g) _) from (by rw [List.append_nil] <;> rfl)), (by rw [List.append_nil]; exact hT0)⟩, hFT, hTT, hsh, (decide_eq_true he).symm, fun h => by cases h⟩ ?_)
          refine ifK (fun _ => ?_) (fun g => absurd (show pnE en a' (mkS s) = 0 by have g : (pnE en a' (mkS s) != 0) = false := g; simpa using g) he)
          refine And.intro rfl (rc_end (rc_slots [] rfl rfl rfl (fun l e => by cases e) (by decide) (by decide) rfl rfl (wr_of rfl) (d := 7) (d2 := 3) (lv := [(8, .slice none 0 0), (9, .int .i64 (pnE en a' (mkS s)))]) (bs := [(0, .cells [.slice (some ⟨1, 0, none⟩) T.length U, .int .i64 (en : Int)] 54), (1, .cells (T.flatMap layT.g) 97)]) (W := [0, 1]) (m := 2) (df := []) ⟨⟨_, rfl, plain_rv 8 rfl⟩, ⟨_, rfl, .int _ _⟩, trivial⟩ ⟨⟨by decide, _, rfl, box_ro _ 1 1 (by rfl) _ _⟩, ⟨by decide, _, rfl, (by first | exact .same (pT_all T) | exact .sameW (pT_all T))⟩, trivial⟩ .nil) (fun f => ?_))
          exact hret _ ([] : List (Bl × Nat)) en f he hR.symm
        · rw [if_neg he] at hR
          have he : pnE en a' (mkS s) = 0 := Decidable.not_not.1 he
          have eb : bs (mkS s) = s := by simp [bs, mkS]
          obtain ⟨⟨p1, p2⟩, p3, p4, p5⟩ := pnE_pos he
          rw [eb] at p4 p5
          have hpos := ((labels_nm s).1 p4).1.pos
          obtain ⟨r, hr⟩ : ∃ r, packN (T ++ ([] : List (Bl × Nat))) a'.toNat s.length s 0 = r := ⟨_, rfl⟩
          have hne := packN_ne (T ++ ([] : List (Bl × Nat))) a'.toNat s.length s 0 hpos
          have hl1 := packN1_len (T ++ ([] : List (Bl × Nat))) a'.toNat s.length s 0
          have hl2 := packN2_len (T ++ ([] : List (Bl × Nat))) a'.toNat s.length s 0
          have hgd := packN_good hFT a'.toNat s.length s 0
          rw [hr] at hne hl1 hl2 hgd hR
          obtain ⟨o, G⟩ := r
          cases o with
          | nil => exact absurd rfl hne
          | cons v vs =>
            have hvl : vs.length + 1 ≤ s.length + 2 := hl1
            have hl2 : G.length ≤ vs.length + 1 := hl2
            have hAll : goodT (T ++ (([] : List (Bl × Nat)) ++ G)) := by rw [← List.append_assoc]; exact hgd
            cases G with
            | nil =>
              refine Exists.intro (⟨0, some 1, en, T ++ ([] : List (Bl × Nat)), a', mkS s, false, v :: vs, []⟩ : RnX) (And.intro ⟨(by rw [ha'] <;> rfl), (show Tr.get _ 0 = some (AObj.cells [.slice (some ⟨1, 0, none⟩) (T ++ ([] : List (Bl × Nat))).length U, .int .i64 (en : Int)] _) from (by rw [List.append_nil] <;> rfl)), ⟨(show Tr.get _ 1 = some (AObj.cells ((T ++ ([] : List (Bl × Nat))).flatMap layT.g) _) from (by rw [List.append_nil] <;> rfl)), (by rw [List.append_nil]; exact hT0)⟩, hFT, hTT, hsh, (decide_eq_false (not_not_intro he)).symm, fun _ => by rw [eb]; exact hr⟩ ?_)
              refine Exists.intro ((v :: vs).map byV) (And.intro (src_by (l := v :: vs) h1s rfl) ?_)
              refine And.intro (app0_ok (o := v :: vs) (show vs.length + 1 ≤ _ by omega)) ?_
              refine ⟨(i + 1, v :: vs, [], a'.toNat + (vs.length + 1)), ⟨h1, (by have := hAll; rw [List.append_nil] at this; exact this), (by show List.length _ ≤ _; simp <;> omega), (by show List.length _ ≤ _; simp at hFl hl2 ⊢ <;> omega), (fun h => by cases h), (by show wrN a T ((Z.map pcZ).drop (i + 1)) _ _ _ = R; rw [List.append_nil] at hR; exact hR)⟩, (by show Z.length - (i + 1) < Z.length - i; omega), ?_⟩
              exact rc_slots [2, 3, 6] rfl rfl rfl (fun l e => by cases e) (by decide) (by decide) rfl rfl (wr_of rfl) ⟨⟨_, rfl, .ptr _ _ _ rfl⟩, ⟨_, rfl, .int _ _⟩, ⟨_, rfl, .sl _ _ _ _ _ rfl⟩, ⟨_, rfl, .sl _ _ _ _ _ rfl⟩, ⟨_, rfl, .sl _ _ _ _ _ rfl⟩, slot_int rfl (by rw [wrapN (by omega) (by omega)]; omega), trivial⟩ ⟨⟨by decide, _, rfl, rbox_ro 1 1 (by rfl) (by rw [List.append_nil]) _⟩, ⟨by decide, _, rfl, (by first | exact .same (pT_all T) | exact .sameW (pT_all T))⟩, ⟨by decide, _, rfl, (by first | exact .same (zi_plain _) | exact .sameW (zi_plain _))⟩, ⟨by decide, _, rfl, (by first | exact .same (zs_plain _) | exact .sameW (zs_plain _))⟩, ⟨by decide, _, rfl, (by first | exact .same (byV_plain (v :: vs)) | exact .sameW (byV_plain (v :: vs)))⟩, trivial⟩ .nil
            | cons q G =>
              refine Exists.intro (⟨0, some 1, en, T ++ ([] : List (Bl × Nat)), a', mkS s, false, v :: vs, (q :: G)⟩ : RnX) (And.intro ⟨(by rw [ha'] <;> rfl), (show Tr.get _ 0 = some (AObj.cells [.slice (some ⟨1, 0, none⟩) (T ++ ([] : List (Bl × Nat))).length U, .int .i64 (en : Int)] _) from (by rw [List.append_nil] <;> rfl)), ⟨(show Tr.get _ 1 = some (AObj.cells ((T ++ ([] : List (Bl × Nat))).flatMap layT.g) _) from (by rw [List.append_nil] <;> rfl)), (by rw [List.append_nil]; exact hT0)⟩, hFT, hTT, hsh, (decide_eq_false (not_not_intro he)).symm, fun _ => by rw [eb]; exact hr⟩ ?_)
              refine Exists.intro ((v :: vs).map byV) (And.intro (src_by (l := v :: vs) h1s rfl) ?_)
              refine And.intro (app0_ok (o := v :: vs) (show vs.length + 1 ≤ _ by omega)) ?_
              refine ⟨(i + 1, v :: vs, q :: G, a'.toNat + (vs.length + 1)), ⟨h1, hAll, (by show List.length _ ≤ _; simp <;> omega), (by show List.length _ ≤ _; simp at hFl hl2 ⊢ <;> omega), (fun h => by cases h), (by show wrN a T ((Z.map pcZ).drop (i + 1)) _ _ _ = R; exact hR)⟩, (by show Z.length - (i + 1) < Z.length - i; omega), ?_⟩
              exact rc_slots [2, 3, 6, 7] rfl rfl rfl (fun l e => by cases e) (by decide) (by decide) rfl rfl (wr_of rfl) ⟨⟨_, rfl, .ptr _ _ _ rfl⟩, ⟨_, rfl, .int _ _⟩, ⟨_, rfl, .sl _ _ _ _ _ rfl⟩, ⟨_, rfl, .sl _ _ _ _ _ rfl⟩, ⟨_, rfl, .sl _ _ _ _ _ rfl⟩, slot_int rfl (by rw [wrapN (by omega) (by omega)]; omega), trivial⟩ ⟨⟨by decide, _, rfl, rbox_ro 6 4 (by rfl) len_assoc _⟩, ⟨by decide, _, rfl, (by first | exact .same (zi_plain _) | exact .sameW (zi_plain _))⟩, ⟨by decide, _, rfl, (by first | exact .same (zs_plain _) | exact .sameW (zs_plain _))⟩, ⟨by decide, _, rfl, ro_eq flat_eqT (pT_all _)⟩, ⟨by decide, _, rfl, (by first | exact .same (byV_plain (v :: vs)) | exact .sameW (byV_plain (v :: vs)))⟩, trivial⟩ .nil
      · have hk : ¬ k = -1 := by simpa using hk
        rw [decide_eq_false hk] at hR
        unfold wrN at hR
        cases s with
        | nil =>
          refine Exists.intro [] (And.intro (src_by (l := []) h1s rfl) ?_)
          refine ⟨(i + 1, [], [], en), ⟨h1, hFT, (by show List.length _ ≤ _; simp at hol ⊢ <;> omega), (by show List.length _ ≤ _; simp at hFl ⊢ <;> omega), hoF, (by show wrN a T ((Z.map pcZ).drop (i + 1)) _ _ _ = R; rw [List.append_nil] at hR; exact hR)⟩, (by show Z.length - (i + 1) < Z.length - i; omega), ?_⟩
          exact rc_slots [2, 3] rfl rfl rfl (fun l e => by cases e) (by decide) (by decide) rfl rfl (wr_of rfl) ⟨⟨_, rfl, .ptr _ _ _ rfl⟩, ⟨_, rfl, .int _ _⟩, ⟨_, rfl, .sl _ _ _ _ _ rfl⟩, ⟨_, rfl, .sl _ _ _ _ _ rfl⟩, ⟨_, rfl, plain_rv 8 rfl⟩, slot_int rfl (by rw [wrapN (by omega) (by omega)]; omega), trivial⟩ ⟨⟨by decide, _, rfl, box_ro _ 1 1 (by rfl) _ _⟩, ⟨by decide, _, rfl, (by first | exact .same (pT_all T) | exact .sameW (pT_all T))⟩, ⟨by decide, _, rfl, (by first | exact .same (zi_plain _) | exact .sameW (zi_plain _))⟩, ⟨by decide, _, rfl, (by first | exact .same (zs_plain _) | exact .sameW (zs_plain _))⟩, trivial⟩ .nil
        | cons x s =>
          refine Exists.intro ((x :: s).map byV) (And.intro (src_by (l := x :: s) h1s rfl) ?_)
          refine And.intro (app0_ok (o := x :: s) (show s.length + 1 ≤ _ by have : s.length + 1 ≤ 65535 := hsl; omega)) ?_
          refine ⟨(i + 1, x :: s, [], en), ⟨h1, hFT, (by show List.length _ ≤ _; simp at hsl ⊢ <;> omega), (by show List.length _ ≤ _; simp at hFl ⊢ <;> omega), (fun h => by cases h), (by show wrN a T ((Z.map pcZ).drop (i + 1)) _ _ _ = R; exact hR)⟩, (by show Z.length - (i + 1) < Z.length - i; omega), ?_⟩
          exact rc_slots [2, 3, 5] rfl rfl rfl (fun l e => by cases e) (by decide) (by decide) rfl rfl (wr_of rfl) ⟨⟨_, rfl, .ptr _ _ _ rfl⟩, ⟨_, rfl, .int _ _⟩, ⟨_, rfl, .sl _ _ _ _ _ rfl⟩, ⟨_, rfl, .sl _ _ _ _ _ rfl⟩, ⟨_, rfl, .sl _ _ _ _ _ rfl⟩, slot_int rfl (by rw [wrapN (by omega) (by omega)]; omega), trivial⟩ ⟨⟨by decide, _, rfl, box_ro _ 1 1 (by rfl) _ _⟩, ⟨by decide, _, rfl, (by first | exact .same (pT_all T) | exact .sameW (pT_all T))⟩, ⟨by decide, _, rfl, (by first | exact .same (zi_plain _) | exact .sameW (zi_plain _))⟩, ⟨by decide, _, rfl, (by first | exact .same (zs_plain _) | exact .sameW (zs_plain _))⟩, ⟨by decide, _, rfl, (by first | exact .same (byV_plain (x :: s)) | exact .sameW (byV_plain (x :: s)))⟩, trivial⟩ .nil
    · obtain ⟨e1, e2⟩ := hend (by have := of_decide_eq_false h1; omega)
      subst e1
      refine And.intro rfl (rc_end (rc_slots [2, 3] rfl rfl rfl (fun l e => by cases e) (by decide) (by decide) rfl rfl (wr_of rfl) (d := 7) (d2 := 4) (lv := [(0, .pointer (some ⟨0, 0, none⟩)), (1, .int .i64 a), (11, .slice (some ⟨2, 0, none⟩) Z.length Z.length), (12, .slice (some ⟨3, 0, none⟩) Z.length U), (14, .slice none 0 0), (15, .int .i64 Z.length)]) (bs := [(0, .cells [.slice (some ⟨1, 0, none⟩) T.length U, .int .i64 (en : Int)] 54), (1, .cells (T.flatMap layT.g) 97), (2, .cells (Z.map zi) 3), (3, .cells (Z.map zs) 9)]) (W := [0, 1]) (m := 4) (df := []) ⟨⟨_, rfl, .ptr _ _ _ rfl⟩, ⟨_, rfl, .int _ _⟩, ⟨_, rfl, .sl _ _ _ _ _ rfl⟩, ⟨_, rfl, .sl _ _ _ _ _ rfl⟩, ⟨_, rfl, plain_rv 8 rfl⟩, ⟨_, rfl, .int _ _⟩, trivial⟩ ⟨⟨by decide, _, rfl, box_ro _ 1 1 (by rfl) _ _⟩, ⟨by decide, _, rfl, (by first | exact .same (pT_all T) | exact .sameW (pT_all T))⟩, ⟨by decide, _, rfl, (by first | exact .same (zi_plain _) | exact .sameW (zi_plain _))⟩, ⟨by decide, _, rfl, (by first | exact .same (zs_plain _) | exact .sameW (zs_plain _))⟩, trivial⟩ .nil) (fun f => ?_))
      exact hex [] ([] : List (Bl × Nat)) en f e2 hoF (by show List.length _ ≤ _; have := hl; simp at hol ⊢ <;> omega)
  | cons u us =>
    have hol : us.length + 1 ≤ 70000 * i := hol
    cases F with
    | nil =>
      have hFT : goodT (T ++ ([] : List (Bl × Nat))) := hg
      refine sx_ok tbWq [2, 3, 5, 6] 2 _ none mixed _ _ _ ?_
      refine ifK (fun h1 => ?_) (fun h1 => ?_)
      · have h1 : i < Z.length := by have := of_decide_eq_true h1; omega
        obtain ⟨k, s, hp⟩ : ∃ k s, Z[i] = (k, s) := ⟨_, _, rfl⟩
        obtain ⟨hR, hsl, hat1, hat2⟩ := step h1 k s hp
        have hdom : inI (i : Int) Z.length = true := by simp [inI]; omega
        refine ifK (fun _ => ?_) (fun h2 => absurd (hdom.symm.trans h2) (by decide))
        refine Exists.intro (mkS s) (And.intro hat1 ?_)
        refine ifK (fun _ => ?_) (fun h2 => absurd (of_decide_eq_false h2) (not_not_intro (show s.length ≤ 9223372036854775807 by omega)))
        refine ifK (fun _ => ?_) (fun h2 => absurd (hdom.symm.trans h2) (by decide))
        refine Exists.intro k (And.intro hat2 ?_)
        refine ifK (fun hk => ?_) (fun hk => ?_)
        · have hk : k = -1 := by simpa using hk
          rw [decide_eq_true hk] at hR
          refine ifK (fun _ => ?_) (fun h2 => absurd (hdom.symm.trans h2) (by decide))
          refine Exists.intro (mkS s) (And.intro hat1 ?_)
          obtain ⟨a', ha'⟩ : ∃ a', a' = IntKind.i64.wrap (a + (((us.length + 1) : Nat) : Int)) := ⟨_, rfl⟩
          unfold wrN at hR
          simp only [show (List.length (u :: us)) = (us.length + 1) from rfl, ← ha'] at hR
          have hsh : shortB (mkS s) = true := by unfold shortB; rw [size_mkS]; exact Nat.ble_eq_true_of_le (by omega)
          have hTT : (T ++ ([] : List (Bl × Nat))).length ≤ 1000000000 := by have := hFl; simp only [List.length_append] at this ⊢; simp at this ⊢ <;> omega
          by_cases he : pnE en a' (mkS s) ≠ 0
          · rw [if_pos he] at hR
            refine Exists.intro (⟨0, some 1, en, T ++ ([] : List (Bl × Nat)), a', mkS s, true, [], []⟩ : RnX) (And.intro ⟨(by rw [ha'] <;> rfl), (show Tr.get _ 0 = some (AObj.cells [.slice (some ⟨1, 0, none⟩) (T ++ ([] : List (Bl × Nat))).length U, .int .i64 (en : Int)] _) from (by rw [List.append_nil] <;> rfl)), ⟨(show Tr.get _ 1 = some (AObj.cells ((T ++ ([] : List (Bl × Nat))).flatMap layT.g) _) from (by rw [List.append_nil] <;> rfl)), (by rw [List.append_nil]; exact hT0)⟩, hFT, hTT, hsh, (decide_eq_true he).symm, fun h => by cases h⟩ ?_)
            refine ifK (fun _ => ?_) (fun g => absurd (show pnE en a' (mkS s) = 0 by have g : (pnE en a' (mkS s) != 0) = false := g; simpa using g) he)
            refine And.intro rfl (rc_end (rc_slots [] rfl rfl rfl (fun l e => by cases e) (by decide) (by decide) rfl rfl (wr_of rfl) (d := 7) (d2 := 3) (lv := [(8, .slice none 0 0), (9, .int .i64 (pnE en a' (mkS s)))]) (bs := [(0, .cells [.slice (some ⟨1, 0, none⟩) T.length U, .int .i64 (en : Int)] 54), (1, .cells (T.flatMap layT.g) 97)]) (W := [0, 1]) (m := 2) (df := []) ⟨⟨_, rfl, plain_rv 8 rfl⟩, ⟨_, rfl, .int _ _⟩, trivial⟩ ⟨⟨by decide, _, rfl, box_ro _ 1 1 (by rfl) _ _⟩, ⟨by decide, _, rfl, (by first | exact .same (pT_all T) | exact .sameW (pT_all T))⟩, trivial⟩ .nil) (fun f => ?_))
            exact hret _ ([] : List (Bl × Nat)) en f he hR.symm
          · rw [if_neg he] at hR
            have he : pnE en a' (mkS s) = 0 := Decidable.not_not.1 he
            have eb : bs (mkS s) = s := by simp [bs, mkS]
            obtain ⟨⟨p1, p2⟩, p3, p4, p5⟩ := pnE_pos he
            rw [eb] at p4 p5
            have hpos := ((labels_nm s).1 p4).1.pos
            obtain ⟨r, hr⟩ : ∃ r, packN (T ++ ([] : List (Bl × Nat))) a'.toNat s.length s 0 = r := ⟨_, rfl⟩
            have hne := packN_ne (T ++ ([] : List (Bl × Nat))) a'.toNat s.length s 0 hpos
            have hl1 := packN1_len (T ++ ([] : List (Bl × Nat))) a'.toNat s.length s 0
            have hl2 := packN2_len (T ++ ([] : List (Bl × Nat))) a'.toNat s.length s 0
            have hgd := packN_good hFT a'.toNat s.length s 0
            rw [hr] at hne hl1 hl2 hgd hR
            obtain ⟨o, G⟩ := r
            cases o with
            | nil => exact absurd rfl hne
            | cons v vs =>
              have hvl : vs.length + 1 ≤ s.length + 2 := hl1
              have hl2 : G.length ≤ vs.length + 1 := hl2
              have hAll : goodT (T ++ (([] : List (Bl × Nat)) ++ G)) := by rw [← List.append_assoc]; exact hgd
              cases G with
              | nil =>
                refine Exists.intro (⟨0, some 1, en, T ++ ([] : List (Bl × Nat)), a', mkS s, false, v :: vs, []⟩ : RnX) (And.intro ⟨(by rw [ha'] <;> rfl), (show Tr.get _ 0 = some (AObj.cells [.slice (some ⟨1, 0, none⟩) (T ++ ([] : List (Bl × Nat))).length U, .int .i64 (en : Int)] _) from (by rw [List.append_nil] <;> rfl)), ⟨(show Tr.get _ 1 = some (AObj.cells ((T ++ ([] : List (Bl × Nat))).flatMap layT.g) _) from (by rw [List.append_nil] <;> rfl)), (by rw [List.append_nil]; exact hT0)⟩, hFT, hTT, hsh, (decide_eq_false (not_not_intro he)).symm, fun _ => by rw [eb]; exact hr⟩ ?_)
                refine Exists.intro ((v :: vs).map byV) (And.intro (src_by (l := v :: vs) h1s rfl) ?_)
                refine And.intro (app_ok (us := us) (o := v :: vs) (by have := hl; omega) (show vs.length + 1 ≤ _ by omega) (Nat.succ_pos _)) ?_
                refine ⟨(i + 1, u :: (us ++ v :: vs), [], a'.toNat + (vs.length + 1)), ⟨h1, (by have := hAll; rw [List.append_nil] at this; exact this), (by show List.length _ ≤ _; simp <;> omega), (by show List.length _ ≤ _; simp at hFl hl2 ⊢ <;> omega), (fun h => by cases h), (by show wrN a T ((Z.map pcZ).drop (i + 1)) _ _ _ = R; rw [List.append_nil] at hR; exact hR)⟩, (by show Z.length - (i + 1) < Z.length - i; omega), ?_⟩
                exact rc_slots [2, 3, 7] rfl rfl rfl (fun l e => by cases e) (by decide) (by decide) rfl rfl (wr_of rfl) ⟨⟨_, rfl, .ptr _ _ _ rfl⟩, ⟨_, rfl, .int _ _⟩, ⟨_, rfl, .sl _ _ _ _ _ rfl⟩, ⟨_, rfl, .sl _ _ _ _ _ rfl⟩, ⟨_, rfl, by show RV _ (.slice _ (us.length + 1 + (v :: vs).length) U) _; rw [cat_len]; exact .sl _ _ _ _ _ rfl⟩, slot_int rfl (by rw [wrapN (by omega) (by omega)]; omega), trivial⟩ ⟨⟨by decide, _, rfl, rbox_ro 1 1 (by rfl) (by rw [List.append_nil]) _⟩, ⟨by decide, _, rfl, (by first | exact .same (pT_all T) | exact .sameW (pT_all T))⟩, ⟨by decide, _, rfl, (by first | exact .same (zi_plain _) | exact .sameW (zi_plain _))⟩, ⟨by decide, _, rfl, (by first | exact .same (zs_plain _) | exact .sameW (zs_plain _))⟩, ⟨by decide, _, rfl, cat_by u us (v :: vs)⟩, trivial⟩ .nil
              | cons q G =>
                refine Exists.intro (⟨0, some 1, en, T ++ ([] : List (Bl × Nat)), a', mkS s, false, v :: vs, (q :: G)⟩ : RnX) (And.intro ⟨(by rw [ha'] <;> rfl), (show Tr.get _ 0 = some (AObj.cells [.slice (some ⟨1, 0, none⟩) (T ++ ([] : List (Bl × Nat))).length U, .int .i64 (en : Int)] _) from (by rw [List.append_nil] <;> rfl)), ⟨(show Tr.get _ 1 = some (AObj.cells ((T ++ ([] : List (Bl × Nat))).flatMap layT.g) _) from (by rw [List.append_nil] <;> rfl)), (by rw [List.append_nil]; exact hT0)⟩, hFT, hTT, hsh, (decide_eq_false (not_not_intro he)).symm, fun _ => by rw [eb]; exact hr⟩ ?_)
                refine Exists.intro ((v :: vs).map byV) (And.intro (src_by (l := v :: vs) h1s rfl) ?_)
                refine And.intro (app_ok (us := us) (o := v :: vs) (by have := hl; omega) (show vs.length + 1 ≤ _ by omega) (Nat.succ_pos _)) ?_
                refine ⟨(i + 1, u :: (us ++ v :: vs), q :: G, a'.toNat + (vs.length + 1)), ⟨h1, hAll, (by show List.length _ ≤ _; simp <;> omega), (by show List.length _ ≤ _; simp at hFl hl2 ⊢ <;> omega), (fun h => by cases h), (by show wrN a T ((Z.map pcZ).drop (i + 1)) _ _ _ = R; exact hR)⟩, (by show Z.length - (i + 1) < Z.length - i; omega), ?_⟩
                exact rc_slots [2, 3, 7, 8] rfl rfl rfl (fun l e => by cases e) (by decide) (by decide) rfl rfl (wr_of rfl) ⟨⟨_, rfl, .ptr _ _ _ rfl⟩, ⟨_, rfl, .int _ _⟩, ⟨_, rfl, .sl _ _ _ _ _ rfl⟩, ⟨_, rfl, .sl _ _ _ _ _ rfl⟩, ⟨_, rfl, by show RV _ (.slice _ (us.length + 1 + (v :: vs).length) U) _; rw [cat_len]; exact .sl _ _ _ _ _ rfl⟩, slot_int rfl (by rw [wrapN (by omega) (by omega)]; omega), trivial⟩ ⟨⟨by decide, _, rfl, rbox_ro 7 4 (by rfl) len_assoc _⟩, ⟨by decide, _, rfl, (by first | exact .same (zi_plain _) | exact .sameW (zi_plain _))⟩, ⟨by decide, _, rfl, (by first | exact .same (zs_plain _) | exact .sameW (zs_plain _))⟩, ⟨by decide, _, rfl, ro_eq flat_eqT (pT_all _)⟩, ⟨by decide, _, rfl, cat_by u us (v :: vs)⟩, trivial⟩ .nil
        · have hk : ¬ k = -1 := by simpa using hk
          rw [decide_eq_false hk] at hR
          unfold wrN at hR
          cases s with
          | nil =>
            refine Exists.intro [] (And.intro (src_by (l := []) h1s rfl) ?_)
            refine ⟨(i + 1, u :: us, [], en), ⟨h1, hFT, (by show List.length _ ≤ _; simp at hol ⊢ <;> omega), (by show List.length _ ≤ _; simp at hFl ⊢ <;> omega), hoF, (by show wrN a T ((Z.map pcZ).drop (i + 1)) _ _ _ = R; rw [List.append_nil] at hR; exact hR)⟩, (by show Z.length - (i + 1) < Z.length - i; omega), ?_⟩
            exact rc_slots [2, 3, 4] rfl rfl rfl (fun l e => by cases e) (by decide) (by decide) rfl rfl (wr_of rfl) ⟨⟨_, rfl, .ptr _ _ _ rfl⟩, ⟨_, rfl, .int _ _⟩, ⟨_, rfl, .sl _ _ _ _ _ rfl⟩, ⟨_, rfl, .sl _ _ _ _ _ rfl⟩, ⟨_, rfl, .sl _ _ _ _ _ rfl⟩, slot_int rfl (by rw [wrapN (by omega) (by omega)]; omega), trivial⟩ ⟨⟨by decide, _, rfl, box_ro _ 1 1 (by rfl) _ _⟩, ⟨by decide, _, rfl, (by first | exact .same (pT_all T) | exact .sameW (pT_all T))⟩, ⟨by decide, _, rfl, (by first | exact .same (zi_plain _) | exact .sameW (zi_plain _))⟩, ⟨by decide, _, rfl, (by first | exact .same (zs_plain _) | exact .sameW (zs_plain _))⟩, ⟨by decide, _, rfl, (by first | exact .same (byV_plain (u :: us)) | exact .sameW (byV_plain (u :: us)))⟩, trivial⟩ .nil
          | cons x s =>
            refine Exists.intro ((x :: s).map byV) (And.intro (src_by (l := x :: s) h1s rfl) ?_)
            refine And.intro (app_ok (us := us) (o := x :: s) (by have := hl; omega) (show s.length + 1 ≤ _ by have : s.length + 1 ≤ 65535 := hsl; omega) (Nat.succ_pos _)) ?_
            refine ⟨(i + 1, u :: (us ++ x :: s), [], en), ⟨h1, hFT, (by show List.length _ ≤ _; simp at hsl ⊢ <;> omega), (by show List.length _ ≤ _; simp at hFl ⊢ <;> omega), (fun h => by cases h), (by show wrN a T ((Z.map pcZ).drop (i + 1)) _ _ _ = R; exact hR)⟩, (by show Z.length - (i + 1) < Z.length - i; omega), ?_⟩
            exact rc_slots [2, 3, 6] rfl rfl rfl (fun l e => by cases e) (by decide) (by decide) rfl rfl (wr_of rfl) ⟨⟨_, rfl, .ptr _ _ _ rfl⟩, ⟨_, rfl, .int _ _⟩, ⟨_, rfl, .sl _ _ _ _ _ rfl⟩, ⟨_, rfl, .sl _ _ _ _ _ rfl⟩, ⟨_, rfl, by show RV _ (.slice _ (us.length + 1 + (x :: s).length) U) _; rw [cat_len]; exact .sl _ _ _ _ _ rfl⟩, slot_int rfl (by rw [wrapN (by omega) (by omega)]; omega), trivial⟩ ⟨⟨by decide, _, rfl, box_ro _ 1 1 (by rfl) _ _⟩, ⟨by decide, _, rfl, (by first | exact .same (pT_all T) | exact .sameW (pT_all T))⟩, ⟨by decide, _, rfl, (by first | exact .same (zi_plain _) | exact .sameW (zi_plain _))⟩, ⟨by decide, _, rfl, (by first | exact .same (zs_plain _) | exact .sameW (zs_plain _))⟩, ⟨by decide, _, rfl, cat_by u us (x :: s)⟩, trivial⟩ .nil
      · obtain ⟨e1, e2⟩ := hend (by have := of_decide_eq_false h1; omega)
        subst e1
        refine And.intro rfl (rc_end (rc_slots [2, 3, 4] rfl rfl rfl (fun l e => by cases e) (by decide) (by decide) rfl rfl (wr_of rfl) (d := 7) (d2 := 4) (lv := [(0, .pointer (some ⟨0, 0, none⟩)), (1, .int .i64 a), (11, .slice (some ⟨2, 0, none⟩) Z.length Z.length), (12, .slice (some ⟨3, 0, none⟩) Z.length U), (14, .slice (some ⟨4, 0, none⟩) (us.length + 1) U), (15, .int .i64 Z.length)]) (bs := [(0, .cells [.slice (some ⟨1, 0, none⟩) T.length U, .int .i64 (en : Int)] 54), (1, .cells (T.flatMap layT.g) 97), (2, .cells (Z.map zi) 3), (3, .cells (Z.map zs) 9), (4, .cells ((u :: us).map byV) 5)]) (W := [0, 1]) (m := 5) (df := []) ⟨⟨_, rfl, .ptr _ _ _ rfl⟩, ⟨_, rfl, .int _ _⟩, ⟨_, rfl, .sl _ _ _ _ _ rfl⟩, ⟨_, rfl, .sl _ _ _ _ _ rfl⟩, ⟨_, rfl, .sl _ _ _ _ _ rfl⟩, ⟨_, rfl, .int _ _⟩, trivial⟩ ⟨⟨by decide, _, rfl, box_ro _ 1 1 (by rfl) _ _⟩, ⟨by decide, _, rfl, (by first | exact .same (pT_all T) | exact .sameW (pT_all T))⟩, ⟨by decide, _, rfl, (by first | exact .same (zi_plain _) | exact .sameW (zi_plain _))⟩, ⟨by decide, _, rfl, (by first | exact .same (zs_plain _) | exact .sameW (zs_plain _))⟩, ⟨by decide, _, rfl, (by first | exact .same (byV_plain (u :: us)) | exact .sameW (byV_plain (u :: us)))⟩, trivial⟩ .nil) (fun f => ?_))
        exact hex (u :: us) ([] : List (Bl × Nat)) en f e2 hoF (by show List.length _ ≤ _; have := hl; simp at hol ⊢ <;> omega)
    | cons p F =>
      have hFT : goodT (T ++ (p :: F)) := hg
      refine sx_ok tbWq [2, 3, 6, 7] 2 _ none mixed _ _ _ ?_
      refine ifK (fun h1 => ?_) (fun h1 => ?_)
      · have h1 : i < Z.length := by have := of_decide_eq_true h1; omega
        obtain ⟨k, s, hp⟩ : ∃ k s, Z[i] = (k, s) := ⟨_, _, rfl⟩
        obtain ⟨hR, hsl, hat1, hat2⟩ := step h1 k s hp
        have hdom : inI (i : Int) Z.length = true := by simp [inI]; omega
        refine ifK (fun _ => ?_) (fun h2 => absurd (hdom.symm.trans h2) (by decide))
        refine Exists.intro (mkS s) (And.intro hat1 ?_)
        refine ifK (fun _ => ?_) (fun h2 => absurd (of_decide_eq_false h2) (not_not_intro (show s.length ≤ 9223372036854775807 by omega)))
        refine ifK (fun _ => ?_) (fun h2 => absurd (hdom.symm.trans h2) (by decide))
        refine Exists.intro k (And.intro hat2 ?_)
        refine ifK (fun hk => ?_) (fun hk => ?_)
        · have hk : k = -1 := by simpa using hk
          rw [decide_eq_true hk] at hR
          refine ifK (fun _ => ?_) (fun h2 => absurd (hdom.symm.trans h2) (by decide))
          refine Exists.intro (mkS s) (And.intro hat1 ?_)
          obtain ⟨a', ha'⟩ : ∃ a', a' = IntKind.i64.wrap (a + (((us.length + 1) : Nat) : Int)) := ⟨_, rfl⟩
          unfold wrN at hR
          simp only [show (List.length (u :: us)) = (us.length + 1) from rfl, ← ha'] at hR
          have hsh : shortB (mkS s) = true := by unfold shortB; rw [size_mkS]; exact Nat.ble_eq_true_of_le (by omega)
          have hTT : (T ++ (p :: F)).length ≤ 1000000000 := by have := hFl; simp only [List.length_append] at this ⊢; simp at this ⊢ <;> omega
          by_cases he : pnE en a' (mkS s) ≠ 0
          · rw [if_pos he] at hR
            refine Exists.intro (⟨0, some 4, en, T ++ (p :: F), a', mkS s, true, [], []⟩ : RnX) (And.intro ⟨(by rw [ha'] <;> rfl), (show Tr.get _ 0 = some (AObj.cells [.slice (some ⟨4, 0, none⟩) (T ++ (p :: F)).length U, .int .i64 (en : Int)] _) from (by rfl)), ⟨(show Tr.get _ 4 = some (AObj.cells ((T ++ (p :: F)).flatMap layT.g) _) from (by rfl)), (by simp)⟩, hFT, hTT, hsh, (decide_eq_true he).symm, fun h => by cases h⟩ ?_)
            refine ifK (fun _ => ?_) (fun g => absurd (show pnE en a' (mkS s) = 0 by have g : (pnE en a' (mkS s) != 0) = false := g; simpa using g) he)
            refine And.intro rfl (rc_end (rc_slots [4] rfl rfl rfl (fun l e => by cases e) (by decide) (by decide) rfl rfl (wr_of rfl) (d := 7) (d2 := 3) (lv := [(8, .slice none 0 0), (9, .int .i64 (pnE en a' (mkS s)))]) (bs := [(0, .cells [.slice (some ⟨2, 0, none⟩) (T ++ p :: F).length U, .int .i64 (en : Int)] 54), (2, .cells ((T ++ p :: F).flatMap layT.g) 97)]) (W := [0, 1]) (m := 3) (df := []) ⟨⟨_, rfl, plain_rv 8 rfl⟩, ⟨_, rfl, .int _ _⟩, trivial⟩ ⟨⟨by decide, _, rfl, box_ro _ 4 2 (by rfl) _ _⟩, ⟨by decide, _, rfl, (by first | exact .same (pT_all (T ++ p :: F)) | exact .sameW (pT_all (T ++ p :: F)))⟩, trivial⟩ .nil) (fun f => ?_))
            exact hret _ (p :: F) en f he hR.symm
          · rw [if_neg he] at hR
            have he : pnE en a' (mkS s) = 0 := Decidable.not_not.1 he
            have eb : bs (mkS s) = s := by simp [bs, mkS]
            obtain ⟨⟨p1, p2⟩, p3, p4, p5⟩ := pnE_pos he
            rw [eb] at p4 p5
            have hpos := ((labels_nm s).1 p4).1.pos
            obtain ⟨r, hr⟩ : ∃ r, packN (T ++ (p :: F)) a'.toNat s.length s 0 = r := ⟨_, rfl⟩
            have hne := packN_ne (T ++ (p :: F)) a'.toNat s.length s 0 hpos
            have hl1 := packN1_len (T ++ (p :: F)) a'.toNat s.length s 0
            have hl2 := packN2_len (T ++ (p :: F)) a'.toNat s.length s 0
            have hgd := packN_good hFT a'.toNat s.length s 0
            rw [hr] at hne hl1 hl2 hgd hR
            obtain ⟨o, G⟩ := r
            cases o with
            | nil => exact absurd rfl hne
            | cons v vs =>
              have hvl : vs.length + 1 ≤ s.length + 2 := hl1
              have hl2 : G.length ≤ vs.length + 1 := hl2
              have hAll : goodT (T ++ ((p :: F) ++ G)) := by rw [← List.append_assoc]; exact hgd
              cases G with
              | nil =>
                refine Exists.intro (⟨0, some 4, en, T ++ (p :: F), a', mkS s, false, v :: vs, []⟩ : RnX) (And.intro ⟨(by rw [ha'] <;> rfl), (show Tr.get _ 0 = some (AObj.cells [.slice (some ⟨4, 0, none⟩) (T ++ (p :: F)).length U, .int .i64 (en : Int)] _) from (by rfl)), ⟨(show Tr.get _ 4 = some (AObj.cells ((T ++ (p :: F)).flatMap layT.g) _) from (by rfl)), (by simp)⟩, hFT, hTT, hsh, (decide_eq_false (not_not_intro he)).symm, fun _ => by rw [eb]; exact hr⟩ ?_)
                refine Exists.intro ((v :: vs).map byV) (And.intro (src_by (l := v :: vs) h1s rfl) ?_)
                refine And.intro (app_ok (us := us) (o := v :: vs) (by have := hl; omega) (show vs.length + 1 ≤ _ by omega) (Nat.succ_pos _)) ?_
                refine ⟨(i + 1, u :: (us ++ v :: vs), p :: F, a'.toNat + (vs.length + 1)), ⟨h1, (by have := hAll; rw [List.append_nil] at this; exact this), (by show List.length _ ≤ _; simp <;> omega), (by show List.length _ ≤ _; simp at hFl hl2 ⊢ <;> omega), (fun h => by cases h), (by show wrN a T ((Z.map pcZ).drop (i + 1)) _ _ _ = R; rw [List.append_nil] at hR; exact hR)⟩, (by show Z.length - (i + 1) < Z.length - i; omega), ?_⟩
                exact rc_slots [2, 3, 4, 8] rfl rfl rfl (fun l e => by cases e) (by decide) (by decide) rfl rfl (wr_of rfl) ⟨⟨_, rfl, .ptr _ _ _ rfl⟩, ⟨_, rfl, .int _ _⟩, ⟨_, rfl, .sl _ _ _ _ _ rfl⟩, ⟨_, rfl, .sl _ _ _ _ _ rfl⟩, ⟨_, rfl, by show RV _ (.slice _ (us.length + 1 + (v :: vs).length) U) _; rw [cat_len]; exact .sl _ _ _ _ _ rfl⟩, slot_int rfl (by rw [wrapN (by omega) (by omega)]; omega), trivial⟩ ⟨⟨by decide, _, rfl, rbox_ro 4 4 (by rfl) rfl _⟩, ⟨by decide, _, rfl, (by first | exact .same (zi_plain _) | exact .sameW (zi_plain _))⟩, ⟨by decide, _, rfl, (by first | exact .same (zs_plain _) | exact .sameW (zs_plain _))⟩, ⟨by decide, _, rfl, (by first | exact .same (pT_all (T ++ p :: F)) | exact .sameW (pT_all (T ++ p :: F)))⟩, ⟨by decide, _, rfl, cat_by u us (v :: vs)⟩, trivial⟩ .nil
              | cons q G =>
                refine Exists.intro (⟨0, some 4, en, T ++ (p :: F), a', mkS s, false, v :: vs, (q :: G)⟩ : RnX) (And.intro ⟨(by rw [ha'] <;> rfl), (show Tr.get _ 0 = some (AObj.cells [.slice (some ⟨4, 0, none⟩) (T ++ (p :: F)).length U, .int .i64 (en : Int)] _) from (by rfl)), ⟨(show Tr.get _ 4 = some (AObj.cells ((T ++ (p :: F)).flatMap layT.g) _) from (by rfl)), (by simp)⟩, hFT, hTT, hsh, (decide_eq_false (not_not_intro he)).symm, fun _ => by rw [eb]; exact hr⟩ ?_)
                refine Exists.intro ((v :: vs).map byV) (And.intro (src_by (l := v :: vs) h1s rfl) ?_)
                refine And.intro (app_ok (us := us) (o := v :: vs) (by have := hl; omega) (show vs.length + 1 ≤ _ by omega) (Nat.succ_pos _)) ?_
                refine ⟨(i + 1, u :: (us ++ v :: vs), p :: (F ++ q :: G), a'.toNat + (vs.length + 1)), ⟨h1, hAll, (by show List.length _ ≤ _; simp <;> omega), (by show List.length _ ≤ _; simp at hFl hl2 ⊢ <;> omega), (fun h => by cases h), (by show wrN a T ((Z.map pcZ).drop (i + 1)) _ _ _ = R; exact hR)⟩, (by show Z.length - (i + 1) < Z.length - i; omega), ?_⟩
                exact rc_slots [2, 3, 8, 9] rfl rfl rfl (fun l e => by cases e) (by decide) (by decide) rfl rfl (wr_of rfl) ⟨⟨_, rfl, .ptr _ _ _ rfl⟩, ⟨_, rfl, .int _ _⟩, ⟨_, rfl, .sl _ _ _ _ _ rfl⟩, ⟨_, rfl, .sl _ _ _ _ _ rfl⟩, ⟨_, rfl, by show RV _ (.slice _ (us.length + 1 + (v :: vs).length) U) _; rw [cat_len]; exact .sl _ _ _ _ _ rfl⟩, slot_int rfl (by rw [wrapN (by omega) (by omega)]; omega), trivial⟩ ⟨⟨by decide, _, rfl, rbox_ro 8 4 (by rfl) len_assoc _⟩, ⟨by decide, _, rfl, (by first | exact .same (zi_plain _) | exact .sameW (zi_plain _))⟩, ⟨by decide, _, rfl, (by first | exact .same (zs_plain _) | exact .sameW (zs_plain _))⟩, ⟨by decide, _, rfl, ro_eq flat_eqT (pT_all _)⟩, ⟨by decide, _, rfl, cat_by u us (v :: vs)⟩, trivial⟩ .nil
        · have hk : ¬ k = -1 := by simpa using hk
          rw [decide_eq_false hk] at hR
          unfold wrN at hR
          cases s with
          | nil =>
            refine Exists.intro [] (And.intro (src_by (l := []) h1s rfl) ?_)
            refine ⟨(i + 1, u :: us, p :: F, en), ⟨h1, hFT, (by show List.length _ ≤ _; simp at hol ⊢ <;> omega), (by show List.length _ ≤ _; simp at hFl ⊢ <;> omega), hoF, (by show wrN a T ((Z.map pcZ).drop (i + 1)) _ _ _ = R; rw [List.append_nil] at hR; exact hR)⟩, (by show Z.length - (i + 1) < Z.length - i; omega), ?_⟩
            exact rc_slots [2, 3, 4, 5] rfl rfl rfl (fun l e => by cases e) (by decide) (by decide) rfl rfl (wr_of rfl) ⟨⟨_, rfl, .ptr _ _ _ rfl⟩, ⟨_, rfl, .int _ _⟩, ⟨_, rfl, .sl _ _ _ _ _ rfl⟩, ⟨_, rfl, .sl _ _ _ _ _ rfl⟩, ⟨_, rfl, .sl _ _ _ _ _ rfl⟩, slot_int rfl (by rw [wrapN (by omega) (by omega)]; omega), trivial⟩ ⟨⟨by decide, _, rfl, box_ro _ 4 4 (by rfl) _ _⟩, ⟨by decide, _, rfl, (by first | exact .same (zi_plain _) | exact .sameW (zi_plain _))⟩, ⟨by decide, _, rfl, (by first | exact .same (zs_plain _) | exact .sameW (zs_plain _))⟩, ⟨by decide, _, rfl, (by first | exact .same (pT_all (T ++ p :: F)) | exact .sameW (pT_all (T ++ p :: F)))⟩, ⟨by decide, _, rfl, (by first | exact .same (byV_plain (u :: us)) | exact .sameW (byV_plain (u :: us)))⟩, trivial⟩ .nil
          | cons x s =>
            refine Exists.intro ((x :: s).map byV) (And.intro (src_by (l := x :: s) h1s rfl) ?_)
            refine And.intro (app_ok (us := us) (o := x :: s) (by have := hl; omega) (show s.length + 1 ≤ _ by have : s.length + 1 ≤ 65535 := hsl; omega) (Nat.succ_pos _)) ?_
            refine ⟨(i + 1, u :: (us ++ x :: s), p :: F, en), ⟨h1, hFT, (by show List.length _ ≤ _; simp at hsl ⊢ <;> omega), (by show List.length _ ≤ _; simp at hFl ⊢ <;> omega), (fun h => by cases h), (by show wrN a T ((Z.map pcZ).drop (i + 1)) _ _ _ = R; exact hR)⟩, (by show Z.length - (i + 1) < Z.length - i; omega), ?_⟩
            exact rc_slots [2, 3, 4, 7] rfl rfl rfl (fun l e => by cases e) (by decide) (by decide) rfl rfl (wr_of rfl) ⟨⟨_, rfl, .ptr _ _ _ rfl⟩, ⟨_, rfl, .int _ _⟩, ⟨_, rfl, .sl _ _ _ _ _ rfl⟩, ⟨_, rfl, .sl _ _ _ _ _ rfl⟩, ⟨_, rfl, by show RV _ (.slice _ (us.length + 1 + (x :: s).length) U) _; rw [cat_len]; exact .sl _ _ _ _ _ rfl⟩, slot_int rfl (by rw [wrapN (by omega) (by omega)]; omega), trivial⟩ ⟨⟨by decide, _, rfl, box_ro _ 4 4 (by rfl) _ _⟩, ⟨by decide, _, rfl, (by first | exact .same (zi_plain _) | exact .sameW (zi_plain _))⟩, ⟨by decide, _, rfl, (by first | exact .same (zs_plain _) | exact .sameW (zs_plain _))⟩, ⟨by decide, _, rfl, (by first | exact .same (pT_all (T ++ p :: F)) | exact .sameW (pT_all (T ++ p :: F)))⟩, ⟨by decide, _, rfl, cat_by u us (x :: s)⟩, trivial⟩ .nil
      · obtain ⟨e1, e2⟩ := hend (by have := of_decide_eq_false h1; omega)
        subst e1
        refine And.intro rfl (rc_end (rc_slots [2, 3, 4, 5] rfl rfl rfl (fun l e => by cases e) (by decide) (by decide) rfl rfl (wr_of rfl) (d := 7) (d2 := 4) (lv := [(0, .pointer (some ⟨0, 0, none⟩)), (1, .int .i64 a), (11, .slice (some ⟨2, 0, none⟩) Z.length Z.length), (12, .slice (some ⟨3, 0, none⟩) Z.length U), (14, .slice (some ⟨5, 0, none⟩) (us.length + 1) U), (15, .int .i64 Z.length)]) (bs := [(0, .cells [.slice (some ⟨4, 0, none⟩) (T ++ p :: F).length U, .int .i64 (en : Int)] 54), (2, .cells (Z.map zi) 3), (3, .cells (Z.map zs) 9), (4, .cells ((T ++ p :: F).flatMap layT.g) 97), (5, .cells ((u :: us).map byV) 5)]) (W := [0, 1]) (m := 6) (df := []) ⟨⟨_, rfl, .ptr _ _ _ rfl⟩, ⟨_, rfl, .int _ _⟩, ⟨_, rfl, .sl _ _ _ _ _ rfl⟩, ⟨_, rfl, .sl _ _ _ _ _ rfl⟩, ⟨_, rfl, .sl _ _ _ _ _ rfl⟩, ⟨_, rfl, .int _ _⟩, trivial⟩ ⟨⟨by decide, _, rfl, box_ro _ 4 4 (by rfl) _ _⟩, ⟨by decide, _, rfl, (by first | exact .same (zi_plain _) | exact .sameW (zi_plain _))⟩, ⟨by decide, _, rfl, (by first | exact .same (zs_plain _) | exact .sameW (zs_plain _))⟩, ⟨by decide, _, rfl, (by first | exact .same (pT_all (T ++ p :: F)) | exact .sameW (pT_all (T ++ p :: F)))⟩, ⟨by decide, _, rfl, (by first | exact .same (byV_plain (u :: us)) | exact .sameW (byV_plain (u :: us)))⟩, trivial⟩ .nil) (fun f => ?_))
        exact hex (u :: us) (p :: F) en f e2 hoF (by show List.length _ ≤ _; have := hl; simp at hol ⊢ <;> omega)
def rwnE (a : Int) (Z : List (Int × Bs)) (i : Nat) (out : Bl) (F : List (Bl × Nat)) (en : Nat) (f : Nat → Option Value) : Fs := match out, F with
  | [], _ => ⟨slots 7 [(0, .pointer (some ⟨0, 0, none⟩)), (1, .int .i64 a), (11, .slice (some ⟨1, 0, none⟩) Z.length Z.length), (12, .slice (some ⟨2, 0, none⟩) Z.length U), (14, .slice none 0 0), (15, .int .i64 (i : Int))] f, heap 4 [(0, .cells [.slice none 0 0, .int .i64 (en : Int)] 54), (1, .cells (Z.map zi) 3), (2, .cells (Z.map zs) 9)], 3, [0], []⟩
  | u :: us, [] => ⟨slots 7 [(0, .pointer (some ⟨0, 0, none⟩)), (1, .int .i64 a), (11, .slice (some ⟨1, 0, none⟩) Z.length Z.length), (12, .slice (some ⟨2, 0, none⟩) Z.length U), (14, .slice (some ⟨3, 0, none⟩) (us.length + 1) U), (15, .int .i64 (i : Int))] f, heap 4 [(0, .cells [.slice none 0 0, .int .i64 (en : Int)] 54), (1, .cells (Z.map zi) 3), (2, .cells (Z.map zs) 9), (3, .cells ((u :: us).map byV) 5)], 4, [0], []⟩
  | u :: us, p :: F => ⟨slots 7 [(0, .pointer (some ⟨0, 0, none⟩)), (1, .int .i64 a), (11, .slice (some ⟨1, 0, none⟩) Z.length Z.length), (12, .slice (some ⟨2, 0, none⟩) Z.length U), (14, .slice (some ⟨4, 0, none⟩) (us.length + 1) U), (15, .int .i64 (i : Int))] f, heap 4 [(0, .cells [.slice (some ⟨3, 0, none⟩) (([] : List (Bl × Nat)) ++ p :: F).length U, .int .i64 (en : Int)] 54), (1, .cells (Z.map zi) 3), (2, .cells (Z.map zs) 9), (3, .cells ((([] : List (Bl × Nat)) ++ p :: F).flatMap layT.g) 97), (4, .cells ((u :: us).map byV) 5)], 5, [0], []⟩
def rwnS (a : Int) (Z : List (Int × Bs)) (x : Nat × Bl × List (Bl × Nat) × Nat) (f : Nat → Option Value) : Fs := rwnE a Z x.1 x.2.1 x.2.2.1 x.2.2.2 f
def rwnR (a : Int) (F : List (Bl × Nat)) (en : Nat) (e : Int) (f : Nat → Option Value) : Fs := match F with
  | [] => ⟨slots 7 [(8, .slice none 0 0), (9, .int .i64 e)] f, heap 3 [(0, .cells [.slice none 0 0, .int .i64 (en : Int)] 54)], 1, [0], []⟩
  | p :: F => ⟨slots 7 [(8, .slice none 0 0), (9, .int .i64 e)] f, heap 3 [(0, .cells [.slice (some ⟨1, 0, none⟩) (([] : List (Bl × Nat)) ++ p :: F).length U, .int .i64 (en : Int)] 54), (1, .cells ((([] : List (Bl × Nat)) ++ p :: F).flatMap layT.g) 97)], 2, [0], []⟩
set_option maxRecDepth 1000000 in
set_option maxHeartbeats 16000000 in
theorem rwn_loop (a : Int) (Z : List (Int × Bs)) (en0 : Nat) (hps : ∀ p ∈ Z, p.2.length ≤ 65535) (hl : Z.length ≤ 1000) (R : Int × Bl × List (Bl × Nat) × Nat) (hR : wrN a ([] : List (Bl × Nat)) (Z.map pcZ) [] [] en0 = R) {s0 : Fs} {K : Ex → Fs → Prop}
    (h0 : ∃ f, RcM Try.prog 0 1 (4 + (Try.f28.ntmps - 4)) none s0 (rwnS a Z (0, [], [], en0) f))
    (hex : ∀ out F en f, R = (0, out, F, en) → (out = [] → F = []) → out.length ≤ 100000000 → K (.exit 0) (rwnE a Z Z.length out F en f))
    (hret : ∀ (e : Int) (F : List (Bl × Nat)) (en : Nat) f, e ≠ 0 → R = (e, [], F, en) → K .ret (rwnR a F en e f)) :
    LW Try.prog 0 1 (4 + (Try.f28.ntmps - 4)) none (loopAt Try.f28 0) s0 K := by
  have h1s : (Try.prog.types[5]).size = 1 := by kernel_rfl
  have h3s : (Try.prog.types[3]).size = 1 := by kernel_rfl
  have h9s : (Try.prog.types[9]).size = 1 := by kernel_rfl
  refine loop_goX (rwnS a Z ) (fun x => Z.length - x.1) (fun x => x.1 ≤ Z.length ∧ goodT (([] : List (Bl × Nat)) ++ x.2.2.1) ∧ x.2.1.length ≤ 70000 * x.1 ∧ x.2.2.1.length ≤ 257 * x.1 ∧ (x.2.1 = [] → x.2.2.1 = []) ∧ wrN a ([] : List (Bl × Nat)) ((Z.map pcZ).drop x.1) x.2.1 x.2.2.1 x.2.2.2 = R) (0, [], [], en0) ⟨Nat.zero_le _, ⟨List.nodup_nil, fun p hp => by cases hp⟩, Nat.le_refl _, Nat.le_refl _, fun _ => rfl, by rw [List.drop_zero]; exact hR⟩ h0 ?_
  rintro ⟨i, out, F, en⟩ f ⟨hi, hg, hol, hFl, hoF, hR⟩
  have hi : i ≤ Z.length := hi
  have hg : goodT (([] : List (Bl × Nat)) ++ F) := hg
  have hol : out.length ≤ 70000 * i := hol
  have hFl : F.length ≤ 257 * i := hFl
  have hoF : out = [] → F = [] := hoF
  have hR : wrN a ([] : List (Bl × Nat)) ((Z.map pcZ).drop i) out F en = R := hR
  have hend : ¬ i < Z.length → i = Z.length ∧ R = (0, out, F, en) := fun h => by
    have e : i = Z.length := by omega
    rw [e, List.drop_of_length_le (by simp)] at hR
    exact ⟨e, hR.symm⟩
  have step : ∀ (h : i < Z.length) (k : Int) (s : Bs), Z[i] = (k, s) → wrN a ([] : List (Bl × Nat)) ((s, decide (k = -1)) :: (Z.map pcZ).drop (i + 1)) out F en = R ∧ s.length ≤ 65535 ∧ (Z.map zs)[0 + ((i : Int)).toNat * (Try.prog.types[9]).size]? = some (.string (mkS s)) ∧ (Z.map zi)[0 + ((i : Int)).toNat * (Try.prog.types[3]).size]? = some (.int .i64 k) := fun h k s e => by
    have hm : i < (Z.map pcZ).length := by rw [List.length_map]; exact h
    refine ⟨?_, ?_, ?_, ?_⟩
    · rw [← hR, List.drop_eq_getElem_cons hm, List.getElem_map, e]; rfl
    · have := hps _ (List.getElem_mem h)
      rw [e] at this; exact this
    · rw [h9s, Int.toNat_natCast, Nat.zero_add, Nat.mul_one]; simp [h, e, zs, str, mkS]
    · rw [h3s, Int.toNat_natCast, Nat.zero_add, Nat.mul_one]; simp [h, e, zi, intV]
  cases out with
  | nil =>
    have hF0 : F = [] := hoF rfl
    subst hF0
    have hFT : goodT (([] : List (Bl × Nat)) ++ ([] : List (Bl × Nat))) := hg
    refine sx_ok tbWq [1, 2, 3, 4] 1 _ none mixed _ _ _ ?_
    refine ifK (fun h1 => ?_) (fun h1 => ?_)
    · have h1 : i < Z.length := by have := of_decide_eq_true h1; omega
      obtain ⟨k, s, hp⟩ : ∃ k s, Z[i] = (k, s) := ⟨_, _, rfl⟩
      obtain ⟨hR, hsl, hat1, hat2⟩ := step h1 k s hp
      have hdom : inI (i : Int) Z.length = true := by simp [inI]; omega
      refine ifK (fun _ => ?_) (fun h2 => absurd (hdom.symm.trans h2) (by decide))
      refine Exists.intro (mkS s) (And.intro hat1 ?_)
      refine ifK (fun _ => ?_) (fun h2 => absurd (of_decide_eq_false h2) (not_not_intro (show s.length ≤ 9223372036854775807 by omega)))
      refine ifK (fun _ => ?_) (fun h2 => absurd (hdom.symm.trans h2) (by decide))
      refine Exists.intro k (And.intro hat2 ?_)
      refine ifK (fun hk => ?_) (fun hk => ?_)
      · have hk : k = -1 := by simpa using hk
        rw [decide_eq_true hk] at hR
        refine ifK (fun _ => ?_) (fun h2 => absurd (hdom.symm.trans h2) (by decide))
        refine Exists.intro (mkS s) (And.intro hat1 ?_)
        obtain ⟨a', ha'⟩ : ∃ a', a' = IntKind.i64.wrap (a + ((0 : Nat) : Int)) := ⟨_, rfl⟩
        unfold wrN at hR
        simp only [show (List.length ([] : Bl)) = 0 from rfl, ← ha'] at hR
        have hsh : shortB (mkS s) = true := by unfold shortB; rw [size_mkS]; exact Nat.ble_eq_true_of_le (by omega)
        have hTT : (([] : List (Bl × Nat)) ++ ([] : List (Bl × Nat))).length ≤ 1000000000 := by have := hFl; simp only [List.length_append] at this ⊢; simp at this ⊢ <;> omega
        by_cases he : pnE en a' (mkS s) ≠ 0
        · rw [if_pos he] at hR
          refine Exists.intro (⟨0, none, en, ([] : List (Bl × Nat)) ++ ([] : List (Bl × Nat)), a', mkS s, true, [], []⟩ : RnX) (And.intro ⟨(by rw [ha'] <;> rfl), rfl, rfl, hFT, hTT, hsh, (decide_eq_true he).symm, fun h => by cases h⟩ ?_)
          refine ifK (fun _ => ?_) (fun g => absurd (show pnE en a' (mkS s) = 0 by have g : (pnE en a' (mkS s) != 0) = false := g; simpa using g) he)
          refine And.intro rfl (rc_end (rc_slots [] rfl rfl rfl (fun l e => by cases e) (by decide) (by decide) rfl rfl (wr_of rfl) (d := 7) (d2 := 3) (lv := [(8, .slice none 0 0), (9, .int .i64 (pnE en a' (mkS s)))]) (bs := [(0, .cells [.slice none 0 0, .int .i64 (en : Int)] 54)]) (W := [0]) (m := 1) (df := []) ⟨⟨_, rfl, plain_rv 8 rfl⟩, ⟨_, rfl, .int _ _⟩, trivial⟩ ⟨⟨by decide, _, rfl, .same rfl⟩, trivial⟩ .nil) (fun f => ?_))
          exact hret _ ([] : List (Bl × Nat)) en f he hR.symm
        · rw [if_neg he] at hR
          have he : pnE en a' (mkS s) = 0 := Decidable.not_not.1 he
          have eb : bs (mkS s) = s := by simp [bs, mkS]
          obtain ⟨⟨p1, p2⟩, p3, p4, p5⟩ := pnE_pos he
          rw [eb] at p4 p5
          have hpos := ((labels_nm s).1 p4).1.pos
          obtain ⟨r, hr⟩ : ∃ r, packN (([] : List (Bl × Nat)) ++ ([] : List (Bl × Nat))) a'.toNat s.length s 0 = r := ⟨_, rfl⟩
          have hne := packN_ne (([] : List (Bl × Nat)) ++ ([] : List (Bl × Nat))) a'.toNat s.length s 0 hpos
          have hl1 := packN1_len (([] : List (Bl × Nat)) ++ ([] : List (Bl × Nat))) a'.toNat s.length s 0
          have hl2 := packN2_len (([] : List (Bl × Nat)) ++ ([] : List (Bl × Nat))) a'.toNat s.length s 0
          have hgd := packN_good hFT a'.toNat s.length s 0
          rw [hr] at hne hl1 hl2 hgd hR
          obtain ⟨o, G⟩ := r
          cases o with
          | nil => exact absurd rfl hne
          | cons v vs =>
            have hvl : vs.length + 1 ≤ s.length + 2 := hl1
            have hl2 : G.length ≤ vs.length + 1 := hl2
            have hAll : goodT (([] : List (Bl × Nat)) ++ (([] : List (Bl × Nat)) ++ G)) := by rw [← List.append_assoc]; exact hgd
            cases G with
            | nil =>
              refine Exists.intro (⟨0, none, en, ([] : List (Bl × Nat)) ++ ([] : List (Bl × Nat)), a', mkS s, false, v :: vs, []⟩ : RnX) (And.intro ⟨(by rw [ha'] <;> rfl), rfl, rfl, hFT, hTT, hsh, (decide_eq_false (not_not_intro he)).symm, fun _ => by rw [eb]; exact hr⟩ ?_)
              refine Exists.intro ((v :: vs).map byV) (And.intro (src_by (l := v :: vs) h1s rfl) ?_)
              refine And.intro (app0_ok (o := v :: vs) (show vs.length + 1 ≤ _ by omega)) ?_
              refine ⟨(i + 1, v :: vs, [], a'.toNat + (vs.length + 1)), ⟨h1, (by have := hAll; rw [List.append_nil] at this; exact this), (by show List.length _ ≤ _; simp <;> omega), (by show List.length _ ≤ _; simp at hFl hl2 ⊢ <;> omega), (fun h => by cases h), (by show wrN a ([] : List (Bl × Nat)) ((Z.map pcZ).drop (i + 1)) _ _ _ = R; rw [List.append_nil] at hR; exact hR)⟩, (by show Z.length - (i + 1) < Z.length - i; omega), ?_⟩
              exact rc_slots [1, 2, 5] rfl rfl rfl (fun l e => by cases e) (by decide) (by decide) rfl rfl (wr_of rfl) ⟨⟨_, rfl, .ptr _ _ _ rfl⟩, ⟨_, rfl, .int _ _⟩, ⟨_, rfl, .sl _ _ _ _ _ rfl⟩, ⟨_, rfl, .sl _ _ _ _ _ rfl⟩, ⟨_, rfl, .sl _ _ _ _ _ rfl⟩, slot_int rfl (by rw [wrapN (by omega) (by omega)]; omega), trivial⟩ ⟨⟨by decide, _, rfl, .same rfl⟩, ⟨by decide, _, rfl, (by first | exact .same (zi_plain _) | exact .sameW (zi_plain _))⟩, ⟨by decide, _, rfl, (by first | exact .same (zs_plain _) | exact .sameW (zs_plain _))⟩, ⟨by decide, _, rfl, (by first | exact .same (byV_plain (v :: vs)) | exact .sameW (byV_plain (v :: vs)))⟩, trivial⟩ .nil
            | cons q G =>
              refine Exists.intro (⟨0, none, en, ([] : List (Bl × Nat)) ++ ([] : List (Bl × Nat)), a', mkS s, false, v :: vs, (q :: G)⟩ : RnX) (And.intro ⟨(by rw [ha'] <;> rfl), rfl, rfl, hFT, hTT, hsh, (decide_eq_false (not_not_intro he)).symm, fun _ => by rw [eb]; exact hr⟩ ?_)
              refine Exists.intro ((v :: vs).map byV) (And.intro (src_by (l := v :: vs) h1s rfl) ?_)
              refine And.intro (app0_ok (o := v :: vs) (show vs.length + 1 ≤ _ by omega)) ?_
              refine ⟨(i + 1, v :: vs, q :: G, a'.toNat + (vs.length + 1)), ⟨h1, hAll, (by show List.length _ ≤ _; simp <;> omega), (by show List.length _ ≤ _; simp at hFl hl2 ⊢ <;> omega), (fun h => by cases h), (by show wrN a ([] : List (Bl × Nat)) ((Z.map pcZ).drop (i + 1)) _ _ _ = R; exact hR)⟩, (by show Z.length - (i + 1) < Z.length - i; omega), ?_⟩
              exact rc_slots [1, 2, 5, 6] rfl rfl rfl (fun l e => by cases e) (by decide) (by decide) rfl rfl (wr_of rfl) ⟨⟨_, rfl, .ptr _ _ _ rfl⟩, ⟨_, rfl, .int _ _⟩, ⟨_, rfl, .sl _ _ _ _ _ rfl⟩, ⟨_, rfl, .sl _ _ _ _ _ rfl⟩, ⟨_, rfl, .sl _ _ _ _ _ rfl⟩, slot_int rfl (by rw [wrapN (by omega) (by omega)]; omega), trivial⟩ ⟨⟨by decide, _, rfl, rbox_ro 5 3 (by rfl) len_assoc _⟩, ⟨by decide, _, rfl, (by first | exact .same (zi_plain _) | exact .sameW (zi_plain _))⟩, ⟨by decide, _, rfl, (by first | exact .same (zs_plain _) | exact .sameW (zs_plain _))⟩, ⟨by decide, _, rfl, ro_eq flat_eqT (pT_all _)⟩, ⟨by decide, _, rfl, (by first | exact .same (byV_plain (v :: vs)) | exact .sameW (byV_plain (v :: vs)))⟩, trivial⟩ .nil
      · have hk : ¬ k = -1 := by simpa using hk
        rw [decide_eq_false hk] at hR
        unfold wrN at hR
        cases s with
        | nil =>
          refine Exists.intro [] (And.intro (src_by (l := []) h1s rfl) ?_)
          refine ⟨(i + 1, [], [], en), ⟨h1, hFT, (by show List.length _ ≤ _; simp at hol ⊢ <;> omega), (by show List.length _ ≤ _; simp at hFl ⊢ <;> omega), hoF, (by show wrN a ([] : List (Bl × Nat)) ((Z.map pcZ).drop (i + 1)) _ _ _ = R; rw [List.append_nil] at hR; exact hR)⟩, (by show Z.length - (i + 1) < Z.length - i; omega), ?_⟩
          exact rc_slots [1, 2] rfl rfl rfl (fun l e => by cases e) (by decide) (by decide) rfl rfl (wr_of rfl) ⟨⟨_, rfl, .ptr _ _ _ rfl⟩, ⟨_, rfl, .int _ _⟩, ⟨_, rfl, .sl _ _ _ _ _ rfl⟩, ⟨_, rfl, .sl _ _ _ _ _ rfl⟩, ⟨_, rfl, plain_rv 8 rfl⟩, slot_int rfl (by rw [wrapN (by omega) (by omega)]; omega), trivial⟩ ⟨⟨by decide, _, rfl, .same rfl⟩, ⟨by decide, _, rfl, (by first | exact .same (zi_plain _) | exact .sameW (zi_plain _))⟩, ⟨by decide, _, rfl, (by first | exact .same (zs_plain _) | exact .sameW (zs_plain _))⟩, trivial⟩ .nil
        | cons x s =>
          refine Exists.intro ((x :: s).map byV) (And.intro (src_by (l := x :: s) h1s rfl) ?_)
          refine And.intro (app0_ok (o := x :: s) (show s.length + 1 ≤ _ by have : s.length + 1 ≤ 65535 := hsl; omega)) ?_
          refine ⟨(i + 1, x :: s, [], en), ⟨h1, hFT, (by show List.length _ ≤ _; simp at hsl ⊢ <;> omega), (by show List.length _ ≤ _; simp at hFl ⊢ <;> omega), (fun h => by cases h), (by show wrN a ([] : List (Bl × Nat)) ((Z.map pcZ).drop (i + 1)) _ _ _ = R; exact hR)⟩, (by show Z.length - (i + 1) < Z.length - i; omega), ?_⟩
          exact rc_slots [1, 2, 4] rfl rfl rfl (fun l e => by cases e) (by decide) (by decide) rfl rfl (wr_of rfl) ⟨⟨_, rfl, .ptr _ _ _ rfl⟩, ⟨_, rfl, .int _ _⟩, ⟨_, rfl, .sl _ _ _ _ _ rfl⟩, ⟨_, rfl, .sl _ _ _ _ _ rfl⟩, ⟨_, rfl, .sl _ _ _ _ _ rfl⟩, slot_int rfl (by rw [wrapN (by omega) (by omega)]; omega), trivial⟩ ⟨⟨by decide, _, rfl, .same rfl⟩, ⟨by decide, _, rfl, (by first | exact .same (zi_plain _) | exact .sameW (zi_plain _))⟩, ⟨by decide, _, rfl, (by first | exact .same (zs_plain _) | exact .sameW (zs_plain _))⟩, ⟨by decide, _, rfl, (by first | exact .same (byV_plain (x :: s)) | exact .sameW (byV_plain (x :: s)))⟩, trivial⟩ .nil
    · obtain ⟨e1, e2⟩ := hend (by have := of_decide_eq_false h1; omega)
      subst e1
      refine And.intro rfl (rc_end (rc_slots [1, 2] rfl rfl rfl (fun l e => by cases e) (by decide) (by decide) rfl rfl (wr_of rfl) (d := 7) (d2 := 4) (lv := [(0, .pointer (some ⟨0, 0, none⟩)), (1, .int .i64 a), (11, .slice (some ⟨1, 0, none⟩) Z.length Z.length), (12, .slice (some ⟨2, 0, none⟩) Z.length U), (14, .slice none 0 0), (15, .int .i64 Z.length)]) (bs := [(0, .cells [.slice none 0 0, .int .i64 (en : Int)] 54), (1, .cells (Z.map zi) 3), (2, .cells (Z.map zs) 9)]) (W := [0]) (m := 3) (df := []) ⟨⟨_, rfl, .ptr _ _ _ rfl⟩, ⟨_, rfl, .int _ _⟩, ⟨_, rfl, .sl _ _ _ _ _ rfl⟩, ⟨_, rfl, .sl _ _ _ _ _ rfl⟩, ⟨_, rfl, plain_rv 8 rfl⟩, ⟨_, rfl, .int _ _⟩, trivial⟩ ⟨⟨by decide, _, rfl, .same rfl⟩, ⟨by decide, _, rfl, (by first | exact .same (zi_plain _) | exact .sameW (zi_plain _))⟩, ⟨by decide, _, rfl, (by first | exact .same (zs_plain _) | exact .sameW (zs_plain _))⟩, trivial⟩ .nil) (fun f => ?_))
      exact hex [] ([] : List (Bl × Nat)) en f e2 hoF (by show List.length _ ≤ _; have := hl; simp at hol ⊢ <;> omega)
  | cons u us =>
    have hol : us.length + 1 ≤ 70000 * i := hol
    cases F with
    | nil =>
      have hFT : goodT (([] : List (Bl × Nat)) ++ ([] : List (Bl × Nat))) := hg
      refine sx_ok tbWq [1, 2, 4, 5] 1 _ none mixed _ _ _ ?_
      refine ifK (fun h1 => ?_) (fun h1 => ?_)
      · have h1 : i < Z.length := by have := of_decide_eq_true h1; omega
        obtain ⟨k, s, hp⟩ : ∃ k s, Z[i] = (k, s) := ⟨_, _, rfl⟩
        obtain ⟨hR, hsl, hat1, hat2⟩ := step h1 k s hp
        have hdom : inI (i : Int) Z.length = true := by simp [inI]; omega
        refine ifK (fun _ => ?_) (fun h2 => absurd (hdom.symm.trans h2) (by decide))
        refine Exists.intro (mkS s) (And.intro hat1 ?_)
        refine ifK (fun _ => ?_) (fun h2 => absurd (of_decide_eq_false h2) (not_not_intro (show s.length ≤ 9223372036854775807 by omega)))
        refine ifK (fun _ => ?_) (fun h2 => absurd (hdom.symm.trans h2) (by decide))
        refine Exists.intro k (And.intro hat2 ?_)
        refine ifK (fun hk => ?_) (fun hk => ?_)
        · have hk : k = -1 := by simpa using hk
          rw [decide_eq_true hk] at hR
          refine ifK (fun _ => ?_) (fun h2 => absurd (hdom.symm.trans h2) (by decide))
          refine Exists.intro (mkS s) (And.intro hat1 ?_)
          obtain ⟨a', ha'⟩ : ∃ a', a' = IntKind.i64.wrap (a + (((us.length + 1) : Nat) : Int)) := ⟨_, rfl⟩
          unfold wrN at hR
          simp only [show (List.length (u :: us)) = (us.length + 1) from rfl, ← ha'] at hR
          have hsh : shortB (mkS s) = true := by unfold shortB; rw [size_mkS]; exact Nat.ble_eq_true_of_le (by omega)
          have hTT : (([] : List (Bl × Nat)) ++ ([] : List (Bl × Nat))).length ≤ 1000000000 := by have := hFl; simp only [List.length_append] at this ⊢; simp at this ⊢ <;> omega
          by_cases he : pnE en a' (mkS s) ≠ 0
          · rw [if_pos he] at hR
            refine Exists.intro (⟨0, none, en, ([] : List (Bl × Nat)) ++ ([] : List (Bl × Nat)), a', mkS s, true, [], []⟩ : RnX) (And.intro ⟨(by rw [ha'] <;> rfl), rfl, rfl, hFT, hTT, hsh, (decide_eq_true he).symm, fun h => by cases h⟩ ?_)
            refine ifK (fun _ => ?_) (fun g => absurd (show pnE en a' (mkS s) = 0 by have g : (pnE en a' (mkS s) != 0) = false := g; simpa using g) he)
            refine And.intro rfl (rc_end (rc_slots [] rfl rfl rfl (fun l e => by cases e) (by decide) (by decide) rfl rfl (wr_of rfl) (d := 7) (d2 := 3) (lv := [(8, .slice none 0 0), (9, .int .i64 (pnE en a' (mkS s)))]) (bs := [(0, .cells [.slice none 0 0, .int .i64 (en : Int)] 54)]) (W := [0]) (m := 1) (df := []) ⟨⟨_, rfl, plain_rv 8 rfl⟩, ⟨_, rfl, .int _ _⟩, trivial⟩ ⟨⟨by decide, _, rfl, .same rfl⟩, trivial⟩ .nil) (fun f => ?_))
            exact hret _ ([] : List (Bl × Nat)) en f he hR.symm
          · rw [if_neg he] at hR
            have he : pnE en a' (mkS s) = 0 := Decidable.not_not.1 he
            have eb : bs (mkS s) = s := by simp [bs, mkS]
            obtain ⟨⟨p1, p2⟩, p3, p4, p5⟩ := pnE_pos he
            rw [eb] at p4 p5
            have hpos := ((labels_nm s).1 p4).1.pos
            obtain ⟨r, hr⟩ : ∃ r, packN (([] : List (Bl × Nat)) ++ ([] : List (Bl × Nat))) a'.toNat s.length s 0 = r := ⟨_, rfl⟩
            have hne := packN_ne (([] : List (Bl × Nat)) ++ ([] : List (Bl × Nat))) a'.toNat s.length s 0 hpos
            have hl1 := packN1_len (([] : List (Bl × Nat)) ++ ([] : List (Bl × Nat))) a'.toNat s.length s 0
            have hl2 := packN2_len (([] : List (Bl × Nat)) ++ ([] : List (Bl × Nat))) a'.toNat s.length s 0
            have hgd := packN_good hFT a'.toNat s.length s 0
            rw [hr] at hne hl1 hl2 hgd hR
            obtain ⟨o, G⟩ := r
            cases o with
            | nil => exact absurd rfl hne
            | cons v vs =>
              have hvl : vs.length + 1 ≤ s.length + 2 := hl1
              have hl2 : G.length ≤ vs.length + 1 := hl2
              have hAll : goodT (([] : List (Bl × Nat)) ++ (([] : List (Bl × Nat)) ++ G)) := by rw [← List.append_assoc]; exact hgd
              cases G with
              | nil =>
                refine Exists.intro (⟨0, none, en, ([] : List (Bl × Nat)) ++ ([] : List (Bl × Nat)), a', mkS s, false, v :: vs, []⟩ : RnX) (And.intro ⟨(by rw [ha'] <;> rfl), rfl, rfl, hFT, hTT, hsh, (decide_eq_false (not_not_intro he)).symm, fun _ => by rw [eb]; exact hr⟩ ?_)
                refine Exists.intro ((v :: vs).map byV) (And.intro (src_by (l := v :: vs) h1s rfl) ?_)
                refine And.intro (app_ok (us := us) (o := v :: vs) (by have := hl; omega) (show vs.length + 1 ≤ _ by omega) (Nat.succ_pos _)) ?_
                refine ⟨(i + 1, u :: (us ++ v :: vs), [], a'.toNat + (vs.length + 1)), ⟨h1, (by have := hAll; rw [List.append_nil] at this; exact this), (by show List.length _ ≤ _; simp <;> omega), (by show List.length _ ≤ _; simp at hFl hl2 ⊢ <;> omega), (fun h => by cases h), (by show wrN a ([] : List (Bl × Nat)) ((Z.map pcZ).drop (i + 1)) _ _ _ = R; rw [List.append_nil] at hR; exact hR)⟩, (by show Z.length - (i + 1) < Z.length - i; omega), ?_⟩
                exact rc_slots [1, 2, 6] rfl rfl rfl (fun l e => by cases e) (by decide) (by decide) rfl rfl (wr_of rfl) ⟨⟨_, rfl, .ptr _ _ _ rfl⟩, ⟨_, rfl, .int _ _⟩, ⟨_, rfl, .sl _ _ _ _ _ rfl⟩, ⟨_, rfl, .sl _ _ _ _ _ rfl⟩, ⟨_, rfl, by show RV _ (.slice _ (us.length + 1 + (v :: vs).length) U) _; rw [cat_len]; exact .sl _ _ _ _ _ rfl⟩, slot_int rfl (by rw [wrapN (by omega) (by omega)]; omega), trivial⟩ ⟨⟨by decide, _, rfl, .same rfl⟩, ⟨by decide, _, rfl, (by first | exact .same (zi_plain _) | exact .sameW (zi_plain _))⟩, ⟨by decide, _, rfl, (by first | exact .same (zs_plain _) | exact .sameW (zs_plain _))⟩, ⟨by decide, _, rfl, cat_by u us (v :: vs)⟩, trivial⟩ .nil
              | cons q G =>
                refine Exists.intro (⟨0, none, en, ([] : List (Bl × Nat)) ++ ([] : List (Bl × Nat)), a', mkS s, false, v :: vs, (q :: G)⟩ : RnX) (And.intro ⟨(by rw [ha'] <;> rfl), rfl, rfl, hFT, hTT, hsh, (decide_eq_false (not_not_intro he)).symm, fun _ => by rw [eb]; exact hr⟩ ?_)
                refine Exists.intro ((v :: vs).map byV) (And.intro (src_by (l := v :: vs) h1s rfl) ?_)
                refine And.intro (app_ok (us := us) (o := v :: vs) (by have := hl; omega) (show vs.length + 1 ≤ _ by omega) (Nat.succ_pos _)) ?_
                refine ⟨(i + 1, u :: (us ++ v :: vs), q :: G, a'.toNat + (vs.length + 1)), ⟨h1, hAll, (by show List.length _ ≤ _; simp <;> omega), (by show List.length _ ≤ _; simp at hFl hl2 ⊢ <;> omega), (fun h => by cases h), (by show wrN a ([] : List (Bl × Nat)) ((Z.map pcZ).drop (i + 1)) _ _ _ = R; exact hR)⟩, (by show Z.length - (i + 1) < Z.length - i; omega), ?_⟩
                exact rc_slots [1, 2, 6, 7] rfl rfl rfl (fun l e => by cases e) (by decide) (by decide) rfl rfl (wr_of rfl) ⟨⟨_, rfl, .ptr _ _ _ rfl⟩, ⟨_, rfl, .int _ _⟩, ⟨_, rfl, .sl _ _ _ _ _ rfl⟩, ⟨_, rfl, .sl _ _ _ _ _ rfl⟩, ⟨_, rfl, by show RV _ (.slice _ (us.length + 1 + (v :: vs).length) U) _; rw [cat_len]; exact .sl _ _ _ _ _ rfl⟩, slot_int rfl (by rw [wrapN (by omega) (by omega)]; omega), trivial⟩ ⟨⟨by decide, _, rfl, rbox_ro 6 3 (by rfl) len_assoc _⟩, ⟨by decide, _, rfl, (by first | exact .same (zi_plain _) | exact .sameW (zi_plain _))⟩, ⟨by decide, _, rfl, (by first | exact .same (zs_plain _) | exact .sameW (zs_plain _))⟩, ⟨by decide, _, rfl, ro_eq flat_eqT (pT_all _)⟩, ⟨by decide, _, rfl, cat_by u us (v :: vs)⟩, trivial⟩ .nil
        · have hk : ¬ k = -1 := by simpa using hk
          rw [decide_eq_false hk] at hR
          unfold wrN at hR
          cases s with
          | nil =>
            refine Exists.intro [] (And.intro (src_by (l := []) h1s rfl) ?_)
            refine ⟨(i + 1, u :: us, [], en), ⟨h1, hFT, (by show List.length _ ≤ _; simp at hol ⊢ <;> omega), (by show List.length _ ≤ _; simp at hFl ⊢ <;> omega), hoF, (by show wrN a ([] : List (Bl × Nat)) ((Z.map pcZ).drop (i + 1)) _ _ _ = R; rw [List.append_nil] at hR; exact hR)⟩, (by show Z.length - (i + 1) < Z.length - i; omega), ?_⟩
            exact rc_slots [1, 2, 3] rfl rfl rfl (fun l e => by cases e) (by decide) (by decide) rfl rfl (wr_of rfl) ⟨⟨_, rfl, .ptr _ _ _ rfl⟩, ⟨_, rfl, .int _ _⟩, ⟨_, rfl, .sl _ _ _ _ _ rfl⟩, ⟨_, rfl, .sl _ _ _ _ _ rfl⟩, ⟨_, rfl, .sl _ _ _ _ _ rfl⟩, slot_int rfl (by rw [wrapN (by omega) (by omega)]; omega), trivial⟩ ⟨⟨by decide, _, rfl, .same rfl⟩, ⟨by decide, _, rfl, (by first | exact .same (zi_plain _) | exact .sameW (zi_plain _))⟩, ⟨by decide, _, rfl, (by first | exact .same (zs_plain _) | exact .sameW (zs_plain _))⟩, ⟨by decide, _, rfl, (by first | exact .same (byV_plain (u :: us)) | exact .sameW (byV_plain (u :: us)))⟩, trivial⟩ .nil
          | cons x s =>
            refine Exists.intro ((x :: s).map byV) (And.intro (src_by (l := x :: s) h1s rfl) ?_)
            refine And.intro (app_ok (us := us) (o := x :: s) (by have := hl; omega) (show s.length + 1 ≤ _ by have : s.length + 1 ≤ 65535 := hsl; omega) (Nat.succ_pos _)) ?_
            refine ⟨(i + 1, u :: (us ++ x :: s), [], en), ⟨h1, hFT, (by show List.length _ ≤ _; simp at hsl ⊢ <;> omega), (by show List.length _ ≤ _; simp at hFl ⊢ <;> omega), (fun h => by cases h), (by show wrN a ([] : List (Bl × Nat)) ((Z.map pcZ).drop (i + 1)) _ _ _ = R; exact hR)⟩, (by show Z.length - (i + 1) < Z.length - i; omega), ?_⟩
            exact rc_slots [1, 2, 5] rfl rfl rfl (fun l e => by cases e) (by decide) (by decide) rfl rfl (wr_of rfl) ⟨⟨_, rfl, .ptr _ _ _ rfl⟩, ⟨_, rfl, .int _ _⟩, ⟨_, rfl, .sl _ _ _ _ _ rfl⟩, ⟨_, rfl, .sl _ _ _ _ _ rfl⟩, ⟨_, rfl, by show RV _ (.slice _ (us.length + 1 + (x :: s).length) U) _; rw [cat_len]; exact .sl _ _ _ _ _ rfl⟩, slot_int rfl (by rw [wrapN (by omega) (by omega)]; omega), trivial⟩ ⟨⟨by decide, _, rfl, .same rfl⟩, ⟨by decide, _, rfl, (by first | exact .same (zi_plain _) | exact .sameW (zi_plain _))⟩, ⟨by decide, _, rfl, (by first | exact .same (zs_plain _) | exact .sameW (zs_plain _))⟩, ⟨by decide, _, rfl, cat_by u us (x :: s)⟩, trivial⟩ .nil
      · obtain ⟨e1, e2⟩ := hend (by have := of_decide_eq_false h1; omega)
        subst e1
        refine And.intro rfl (rc_end (rc_slots [1, 2, 3] rfl rfl rfl (fun l e => by cases e) (by decide) (by decide) rfl rfl (wr_of rfl) (d := 7) (d2 := 4) (lv := [(0, .pointer (some ⟨0, 0, none⟩)), (1, .int .i64 a), (11, .slice (some ⟨1, 0, none⟩) Z.length Z.length), (12, .slice (some ⟨2, 0, none⟩) Z.length U), (14, .slice (some ⟨3, 0, none⟩) (us.length + 1) U), (15, .int .i64 Z.length)]) (bs := [(0, .cells [.slice none 0 0, .int .i64 (en : Int)] 54), (1, .cells (Z.map zi) 3), (2, .cells (Z.map zs) 9), (3, .cells ((u :: us).map byV) 5)]) (W := [0]) (m := 4) (df := []) ⟨⟨_, rfl, .ptr _ _ _ rfl⟩, ⟨_, rfl, .int _ _⟩, ⟨_, rfl, .sl _ _ _ _ _ rfl⟩, ⟨_, rfl, .sl _ _ _ _ _ rfl⟩, ⟨_, rfl, .sl _ _ _ _ _ rfl⟩, ⟨_, rfl, .int _ _⟩, trivial⟩ ⟨⟨by decide, _, rfl, .same rfl⟩, ⟨by decide, _, rfl, (by first | exact .same (zi_plain _) | exact .sameW (zi_plain _))⟩, ⟨by decide, _, rfl, (by first | exact .same (zs_plain _) | exact .sameW (zs_plain _))⟩, ⟨by decide, _, rfl, (by first | exact .same (byV_plain (u :: us)) | exact .sameW (byV_plain (u :: us)))⟩, trivial⟩ .nil) (fun f => ?_))
        exact hex (u :: us) ([] : List (Bl × Nat)) en f e2 hoF (by show List.length _ ≤ _; have := hl; simp at hol ⊢ <;> omega)
    | cons p F =>
      have hFT : goodT (([] : List (Bl × Nat)) ++ (p :: F)) := hg
      refine sx_ok tbWq [1, 2, 5, 6] 1 _ none mixed _ _ _ ?_
      refine ifK (fun h1 => ?_) (fun h1 => ?_)
      · have h1 : i < Z.length := by have := of_decide_eq_true h1; omega
        obtain ⟨k, s, hp⟩ : ∃ k s, Z[i] = (k, s) := ⟨_, _, rfl⟩
        obtain ⟨hR, hsl, hat1, hat2⟩ := step h1 k s hp
        have hdom : inI (i : Int) Z.length = true := by simp [inI]; omega
        refine ifK (fun _ => ?_) (fun h2 => absurd (hdom.symm.trans h2) (by decide))
        refine Exists.intro (mkS s) (And.intro hat1 ?_)
        refine ifK (fun _ => ?_) (fun h2 => absurd (of_decide_eq_false h2) (not_not_intro (show s.length ≤ 9223372036854775807 by omega)))
        refine ifK (fun _ => ?_) (fun h2 => absurd (hdom.symm.trans h2) (by decide))
        refine Exists.intro k (And.intro hat2 ?_)
        refine ifK (fun hk => ?_) (fun hk => ?_)
        · have hk : k = -1 := by simpa using hk
          rw [decide_eq_true hk] at hR
          refine ifK (fun _ => ?_) (fun h2 => absurd (hdom.symm.trans h2) (by decide))
          refine Exists.intro (mkS s) (And.intro hat1 ?_)
          obtain ⟨a', ha'⟩ : ∃ a', a' = IntKind.i64.wrap (a + (((us.length + 1) : Nat) : Int)) := ⟨_, rfl⟩
          unfold wrN at hR
          simp only [show (List.length (u :: us)) = (us.length + 1) from rfl, ← ha'] at hR
          have hsh : shortB (mkS s) = true := by unfold shortB; rw [size_mkS]; exact Nat.ble_eq_true_of_le (by omega)
          have hTT : (([] : List (Bl × Nat)) ++ (p :: F)).length ≤ 1000000000 := by have := hFl; simp only [List.length_append] at this ⊢; simp at this ⊢ <;> omega
          by_cases he : pnE en a' (mkS s) ≠ 0
          · rw [if_pos he] at hR
            refine Exists.intro (⟨0, some 3, en, ([] : List (Bl × Nat)) ++ (p :: F), a', mkS s, true, [], []⟩ : RnX) (And.intro ⟨(by rw [ha'] <;> rfl), (show Tr.get _ 0 = some (AObj.cells [.slice (some ⟨3, 0, none⟩) (([] : List (Bl × Nat)) ++ (p :: F)).length U, .int .i64 (en : Int)] _) from (by rfl)), ⟨(show Tr.get _ 3 = some (AObj.cells ((([] : List (Bl × Nat)) ++ (p :: F)).flatMap layT.g) _) from (by rfl)), (by simp)⟩, hFT, hTT, hsh, (decide_eq_true he).symm, fun h => by cases h⟩ ?_)
            refine ifK (fun _ => ?_) (fun g => absurd (show pnE en a' (mkS s) = 0 by have g : (pnE en a' (mkS s) != 0) = false := g; simpa using g) he)
            refine And.intro rfl (rc_end (rc_slots [3] rfl rfl rfl (fun l e => by cases e) (by decide) (by decide) rfl rfl (wr_of rfl) (d := 7) (d2 := 3) (lv := [(8, .slice none 0 0), (9, .int .i64 (pnE en a' (mkS s)))]) (bs := [(0, .cells [.slice (some ⟨1, 0, none⟩) (([] : List (Bl × Nat)) ++ p :: F).length U, .int .i64 (en : Int)] 54), (1, .cells ((([] : List (Bl × Nat)) ++ p :: F).flatMap layT.g) 97)]) (W := [0]) (m := 2) (df := []) ⟨⟨_, rfl, plain_rv 8 rfl⟩, ⟨_, rfl, .int _ _⟩, trivial⟩ ⟨⟨by decide, _, rfl, box_ro _ 3 1 (by rfl) _ _⟩, ⟨by decide, _, rfl, (by first | exact .same (pT_all (([] : List (Bl × Nat)) ++ p :: F)) | exact .sameW (pT_all (([] : List (Bl × Nat)) ++ p :: F)))⟩, trivial⟩ .nil) (fun f => ?_))
            exact hret _ (p :: F) en f he hR.symm
          · rw [if_neg he] at hR
            have he : pnE en a' (mkS s) = 0 := Decidable.not_not.1 he
            have eb : bs (mkS s) = s := by simp [bs, mkS]
            obtain ⟨⟨p1, p2⟩, p3, p4, p5⟩ := pnE_pos he
            rw [eb] at p4 p5
            have hpos := ((labels_nm s).1 p4).1.pos
            obtain ⟨r, hr⟩ : ∃ r, packN (([] : List (Bl × Nat)) ++ (p :: F)) a'.toNat s.length s 0 = r := ⟨_, rfl⟩
            have hne := packN_ne (([] : List (Bl × Nat)) ++ (p :: F)) a'.toNat s.length s 0 hpos
            have hl1 := packN1_len (([] : List (Bl × Nat)) ++ (p :: F)) a'.toNat s.length s 0
            have hl2 := packN2_len (([] : List (Bl × Nat)) ++ (p :: F)) a'.toNat s.length s 0
            have hgd := packN_good hFT a'.toNat s.length s 0
            rw [hr] at hne hl1 hl2 hgd hR
            obtain ⟨o, G⟩ := r
            cases o with
            | nil => exact absurd rfl hne
            | cons v vs =>
              have hvl : vs.length + 1 ≤ s.length + 2 := hl1
              have hl2 : G.length ≤ vs.length + 1 := hl2
              have hAll : goodT (([] : List (Bl × Nat)) ++ ((p :: F) ++ G)) := by rw [← List.append_assoc]; exact hgd
              cases G with
              | nil =>
                refine Exists.intro (⟨0, some 3, en, ([] : List (Bl × Nat)) ++ (p :: F), a', mkS s, false, v :: vs, []⟩ : RnX) (And.intro ⟨(by rw [ha'] <;> rfl), (show Tr.get _ 0 = some (AObj.cells [.slice (some ⟨3, 0, none⟩) (([] : List (Bl × Nat)) ++ (p :: F)).length U, .int .i64 (en : Int)] _) from (by rfl)), ⟨(show Tr.get _ 3 = some (AObj.cells ((([] : List (Bl × Nat)) ++ (p :: F)).flatMap layT.g) _) from (by rfl)), (by simp)⟩, hFT, hTT, hsh, (decide_eq_false (not_not_intro he)).symm, fun _ => by rw [eb]; exact hr⟩ ?_)
                refine Exists.intro ((v :: vs).map byV) (And.intro (src_by (l := v :: vs) h1s rfl) ?_)
                refine And.intro (app_ok (us := us) (o := v :: vs) (by have := hl; omega) (show vs.length + 1 ≤ _ by omega) (Nat.succ_pos _)) ?_
                refine ⟨(i + 1, u :: (us ++ v :: vs), p :: F, a'.toNat + (vs.length + 1)), ⟨h1, (by have := hAll; rw [List.append_nil] at this; exact this), (by show List.length _ ≤ _; simp <;> omega), (by show List.length _ ≤ _; simp at hFl hl2 ⊢ <;> omega), (fun h => by cases h), (by show wrN a ([] : List (Bl × Nat)) ((Z.map pcZ).drop (i + 1)) _ _ _ = R; rw [List.append_nil] at hR; exact hR)⟩, (by show Z.length - (i + 1) < Z.length - i; omega), ?_⟩
                exact rc_slots [1, 2, 3, 7] rfl rfl rfl (fun l e => by cases e) (by decide) (by decide) rfl rfl (wr_of rfl) ⟨⟨_, rfl, .ptr _ _ _ rfl⟩, ⟨_, rfl, .int _ _⟩, ⟨_, rfl, .sl _ _ _ _ _ rfl⟩, ⟨_, rfl, .sl _ _ _ _ _ rfl⟩, ⟨_, rfl, by show RV _ (.slice _ (us.length + 1 + (v :: vs).length) U) _; rw [cat_len]; exact .sl _ _ _ _ _ rfl⟩, slot_int rfl (by rw [wrapN (by omega) (by omega)]; omega), trivial⟩ ⟨⟨by decide, _, rfl, rbox_ro 3 3 (by rfl) rfl _⟩, ⟨by decide, _, rfl, (by first | exact .same (zi_plain _) | exact .sameW (zi_plain _))⟩, ⟨by decide, _, rfl, (by first | exact .same (zs_plain _) | exact .sameW (zs_plain _))⟩, ⟨by decide, _, rfl, (by first | exact .same (pT_all (([] : List (Bl × Nat)) ++ p :: F)) | exact .sameW (pT_all (([] : List (Bl × Nat)) ++ p :: F)))⟩, ⟨by decide, _, rfl, cat_by u us (v :: vs)⟩, trivial⟩ .nil
              | cons q G =>
                refine Exists.intro (⟨0, some 3, en, ([] : List (Bl × Nat)) ++ (p :: F), a', mkS s, false, v :: vs, (q :: G)⟩ : RnX) (And.intro ⟨(by rw [ha'] <;> rfl), (show Tr.get _ 0 = some (AObj.cells [.slice (some ⟨3, 0, none⟩) (([] : List (Bl × Nat)) ++ (p :: F)).length U, .int .i64 (en : Int)] _) from (by rfl)), ⟨(show Tr.get _ 3 = some (AObj.cells ((([] : List (Bl × Nat)) ++ (p :: F)).flatMap layT.g) _) from (by rfl)), (by simp)⟩, hFT, hTT, hsh, (decide_eq_false (not_not_intro he)).symm, fun _ => by rw [eb]; exact hr⟩ ?_)
                refine Exists.intro ((v :: vs).map byV) (And.intro (src_by (l := v :: vs) h1s rfl) ?_)
                refine And.intro (app_ok (us := us) (o := v :: vs) (by have := hl; omega) (show vs.length + 1 ≤ _ by omega) (Nat.succ_pos _)) ?_
                refine ⟨(i + 1, u :: (us ++ v :: vs), p :: (F ++ q :: G), a'.toNat + (vs.length + 1)), ⟨h1, hAll, (by show List.length _ ≤ _; simp <;> omega), (by show List.length _ ≤ _; simp at hFl hl2 ⊢ <;> omega), (fun h => by cases h), (by show wrN a ([] : List (Bl × Nat)) ((Z.map pcZ).drop (i + 1)) _ _ _ = R; exact hR)⟩, (by show Z.length - (i + 1) < Z.length - i; omega), ?_⟩
                exact rc_slots [1, 2, 7, 8] rfl rfl rfl (fun l e => by cases e) (by decide) (by decide) rfl rfl (wr_of rfl) ⟨⟨_, rfl, .ptr _ _ _ rfl⟩, ⟨_, rfl, .int _ _⟩, ⟨_, rfl, .sl _ _ _ _ _ rfl⟩, ⟨_, rfl, .sl _ _ _ _ _ rfl⟩, ⟨_, rfl, by show RV _ (.slice _ (us.length + 1 + (v :: vs).length) U) _; rw [cat_len]; exact .sl _ _ _ _ _ rfl⟩, slot_int rfl (by rw [wrapN (by omega) (by omega)]; omega), trivial⟩ ⟨⟨by decide, _, rfl, rbox_ro 7 3 (by rfl) len_assoc _⟩, ⟨by decide, _, rfl, (by first | exact .same (zi_plain _) | exact .sameW (zi_plain _))⟩, ⟨by decide, _, rfl, (by first | exact .same (zs_plain _) | exact .sameW (zs_plain _))⟩, ⟨by decide, _, rfl, ro_eq flat_eqT (pT_all _)⟩, ⟨by decide, _, rfl, cat_by u us (v :: vs)⟩, trivial⟩ .nil
        · have hk : ¬ k = -1 := by simpa using hk
          rw [decide_eq_false hk] at hR
          unfold wrN at hR
          cases s with
          | nil =>
            refine Exists.intro [] (And.intro (src_by (l := []) h1s rfl) ?_)
            refine ⟨(i + 1, u :: us, p :: F, en), ⟨h1, hFT, (by show List.length _ ≤ _; simp at hol ⊢ <;> omega), (by show List.length _ ≤ _; simp at hFl ⊢ <;> omega), hoF, (by show wrN a ([] : List (Bl × Nat)) ((Z.map pcZ).drop (i + 1)) _ _ _ = R; rw [List.append_nil] at hR; exact hR)⟩, (by show Z.length - (i + 1) < Z.length - i; omega), ?_⟩
            exact rc_slots [1, 2, 3, 4] rfl rfl rfl (fun l e => by cases e) (by decide) (by decide) rfl rfl (wr_of rfl) ⟨⟨_, rfl, .ptr _ _ _ rfl⟩, ⟨_, rfl, .int _ _⟩, ⟨_, rfl, .sl _ _ _ _ _ rfl⟩, ⟨_, rfl, .sl _ _ _ _ _ rfl⟩, ⟨_, rfl, .sl _ _ _ _ _ rfl⟩, slot_int rfl (by rw [wrapN (by omega) (by omega)]; omega), trivial⟩ ⟨⟨by decide, _, rfl, box_ro _ 3 3 (by rfl) _ _⟩, ⟨by decide, _, rfl, (by first | exact .same (zi_plain _) | exact .sameW (zi_plain _))⟩, ⟨by decide, _, rfl, (by first | exact .same (zs_plain _) | exact .sameW (zs_plain _))⟩, ⟨by decide, _, rfl, (by first | exact .same (pT_all (([] : List (Bl × Nat)) ++ p :: F)) | exact .sameW (pT_all (([] : List (Bl × Nat)) ++ p :: F)))⟩, ⟨by decide, _, rfl, (by first | exact .same (byV_plain (u :: us)) | exact .sameW (byV_plain (u :: us)))⟩, trivial⟩ .nil
          | cons x s =>
            refine Exists.intro ((x :: s).map byV) (And.intro (src_by (l := x :: s) h1s rfl) ?_)
            refine And.intro (app_ok (us := us) (o := x :: s) (by have := hl; omega) (show s.length + 1 ≤ _ by have : s.length + 1 ≤ 65535 := hsl; omega) (Nat.succ_pos _)) ?_
            refine ⟨(i + 1, u :: (us ++ x :: s), p :: F, en), ⟨h1, hFT, (by show List.length _ ≤ _; simp at hsl ⊢ <;> omega), (by show List.length _ ≤ _; simp at hFl ⊢ <;> omega), (fun h => by cases h), (by show wrN a ([] : List (Bl × Nat)) ((Z.map pcZ).drop (i + 1)) _ _ _ = R; exact hR)⟩, (by show Z.length - (i + 1) < Z.length - i; omega), ?_⟩
            exact rc_slots [1, 2, 3, 6] rfl rfl rfl (fun l e => by cases e) (by decide) (by decide) rfl rfl (wr_of rfl) ⟨⟨_, rfl, .ptr _ _ _ rfl⟩, ⟨_, rfl, .int _ _⟩, ⟨_, rfl, .sl _ _ _ _ _ rfl⟩, ⟨_, rfl, .sl _ _ _ _ _ rfl⟩, ⟨_, rfl, by show RV _ (.slice _ (us.length + 1 + (x :: s).length) U) _; rw [cat_len]; exact .sl _ _ _ _ _ rfl⟩, slot_int rfl (by rw [wrapN (by omega) (by omega)]; omega), trivial⟩ ⟨⟨by decide, _, rfl, box_ro _ 3 3 (by rfl) _ _⟩, ⟨by decide, _, rfl, (by first | exact .same (zi_plain _) | exact .sameW (zi_plain _))⟩, ⟨by decide, _, rfl, (by first | exact .same (zs_plain _) | exact .sameW (zs_plain _))⟩, ⟨by decide, _, rfl, (by first | exact .same (pT_all (([] : List (Bl × Nat)) ++ p :: F)) | exact .sameW (pT_all (([] : List (Bl × Nat)) ++ p :: F)))⟩, ⟨by decide, _, rfl, cat_by u us (x :: s)⟩, trivial⟩ .nil
      · obtain ⟨e1, e2⟩ := hend (by have := of_decide_eq_false h1; omega)
        subst e1
        refine And.intro rfl (rc_end (rc_slots [1, 2, 3, 4] rfl rfl rfl (fun l e => by cases e) (by decide) (by decide) rfl rfl (wr_of rfl) (d := 7) (d2 := 4) (lv := [(0, .pointer (some ⟨0, 0, none⟩)), (1, .int .i64 a), (11, .slice (some ⟨1, 0, none⟩) Z.length Z.length), (12, .slice (some ⟨2, 0, none⟩) Z.length U), (14, .slice (some ⟨4, 0, none⟩) (us.length + 1) U), (15, .int .i64 Z.length)]) (bs := [(0, .cells [.slice (some ⟨3, 0, none⟩) (([] : List (Bl × Nat)) ++ p :: F).length U, .int .i64 (en : Int)] 54), (1, .cells (Z.map zi) 3), (2, .cells (Z.map zs) 9), (3, .cells ((([] : List (Bl × Nat)) ++ p :: F).flatMap layT.g) 97), (4, .cells ((u :: us).map byV) 5)]) (W := [0]) (m := 5) (df := []) ⟨⟨_, rfl, .ptr _ _ _ rfl⟩, ⟨_, rfl, .int _ _⟩, ⟨_, rfl, .sl _ _ _ _ _ rfl⟩, ⟨_, rfl, .sl _ _ _ _ _ rfl⟩, ⟨_, rfl, .sl _ _ _ _ _ rfl⟩, ⟨_, rfl, .int _ _⟩, trivial⟩ ⟨⟨by decide, _, rfl, box_ro _ 3 3 (by rfl) _ _⟩, ⟨by decide, _, rfl, (by first | exact .same (zi_plain _) | exact .sameW (zi_plain _))⟩, ⟨by decide, _, rfl, (by first | exact .same (zs_plain _) | exact .sameW (zs_plain _))⟩, ⟨by decide, _, rfl, (by first | exact .same (pT_all (([] : List (Bl × Nat)) ++ p :: F)) | exact .sameW (pT_all (([] : List (Bl × Nat)) ++ p :: F)))⟩, ⟨by decide, _, rfl, (by first | exact .same (byV_plain (u :: us)) | exact .sameW (byV_plain (u :: us)))⟩, trivial⟩ .nil) (fun f => ?_))
        exact hex (u :: us) (p :: F) en f e2 hoF (by show List.length _ ≤ _; have := hl; simp at hol ⊢ <;> omega)
end Go.Proofs.Ytjdecbfjpkpepaa
namespace Go.Proofs.Ytjdecbfjpkpepaa
open Go Go.RowKit
theorem FnS.wr {f : FuncId} {args : List Value} {H H' : Tr AObj} {n0 n : Nat} {v : Value} {wr : List Nat} (W : List Nat) (h : FnS Try.prog 0 f args H n0 (.ret v H' n wr)) : FnS Try.prog 0 f args H n0 (.ret v H' n (W ++ wr)) := fun E w args' h1 h2 h3 h4 h5 =>
  (h E w args' h1 h2 h3 h4 h5).mono fun e w' ⟨E', v', q1, q2, q3, q4⟩ => ⟨E', v', q1, q2, q3, q4.sub (fun k hk _ => List.mem_append.2 (.inr hk))⟩
def ovN (b : Nat) (o : Bl) : Value := match o with
  | [] => .slice none 0 0
  | _ :: l => .slice (some ⟨b, 0, none⟩) (l.length + 1) U
theorem pnE_root (en : Nat) : pnE en (-1) (mkS [0]) = 2 := by
  unfold pnE
  have h : (labels (bs (mkS [0]))).2 = 0 := (labels_nm _).2 ⟨.root, by decide⟩
  rw [if_neg (by simpa using h), if_pos (.inl (by decide))]
theorem checkD_no {t : Int} {l : Bs} (h : (checkD t l != 0) = false) : checkD t l = 0 := by simpa using h
set_option maxRecDepth 1000000 in
set_option maxHeartbeats 8000000 in
theorem write_fn (a t : Int) (s : ByteArray) (en : Nat) (T : List (Bl × Nat)) (ck : Nat) (hT : goodT T) (hs : shortB s = true) (e : Int) (o : Bl) (F : List (Bl × Nat)) (en' : Nat) (hD : wrD en T a t (bs s) = (e, o, F, en')) :
    ∃ r, FnS Try.prog 0 27 [.pointer (some ⟨0, 0, none⟩), .int .i64 a, .int .i64 t, .string s] (heap 2 [(0, .cells [.map (some 1), .int .i64 (en : Int)] 81), (1, .map (encT T) ck)]) 2 r ∧
      ∃ H m wr b, r = .ret (.tuple #[ovN b o, .int .i64 e]) H m wr ∧ (o ≠ [] → 2 ≤ b ∧ b < JJ ∧ H.get b = some (.cells (o.map byV) 5)) ∧ H.get 0 = some (.cells [.map (some 1), .int .i64 (en' : Int)] 81) ∧ H.get 1 = some (.map (encT (T ++ F)) (ck + F.length)) := by
  refine fn_sx mixed tbWr [1] Try.func27 (c := bodyOf Try.f27) (by kernel_rfl) ?_
  have hroot : pnR en T (-1) (mkS [0]) true [] [] := ⟨by rw [pnE_root]; rfl, fun h => by cases h⟩
  refine Exists.intro (⟨0, 1, en, T, ck, -1, mkS [0], true, [], []⟩ : PkX) (And.intro ⟨rfl, rfl, (show Tr.get _ 1 = some (AObj.map (encT T) ck) from rfl), hT, rfl, hroot⟩ ?_)
  refine And.intro hs ?_
  unfold wrD at hD
  refine ifK (fun g => ?_) (fun g => ?_)
  · have g : checkD t (bs s) ≠ 0 := by simpa using g
    rw [if_pos g] at hD
    simp only [Prod.mk.injEq] at hD
    obtain ⟨rfl, rfl, rfl, rfl⟩ := hD
    exact ⟨_, _, _, 0, rfl, fun h => absurd rfl h, rfl, by rw [List.append_nil]; rfl⟩
  have g := checkD_no g
  rw [if_neg (by simpa using g)] at hD
  obtain ⟨k1, k2, k3, k4⟩ := pcsD_ok g
  have hps : ∀ p ∈ pcsD t (bs s), p.1.length ≤ 65535 := fun p hp => by
    obtain ⟨i, hi, e1⟩ := List.mem_iff_getElem.1 hp
    have := sumL_at _ i hi
    rw [e1] at this; omega
  refine And.intro hs ?_
  refine ifK (fun g1 => ?_) (fun g1 => ?_)
  · obtain ⟨ps, hp⟩ := Option.isSome_iff_exists.1 g1
    have hpcs : pcsD t (bs s) = outP t (bs s) := by unfold pcsD; rw [hp]
    rw [hpcs] at hD hps k3
    refine ifK (fun g2 => ?_) (fun g2 => ?_)
    · refine wr_loop a (outP t (bs s)) U T ck en hT hps (by omega) _ hD (rc_slots [2] rfl rfl rfl (fun l e => by cases e) (by decide) (by decide) rfl rfl (wr_of rfl) ⟨⟨_, rfl, .ptr _ _ _ rfl⟩, ⟨_, rfl, .int _ _⟩, ⟨_, rfl, plain_rv 8 rfl⟩, ⟨_, rfl, .sl _ _ _ _ _ rfl⟩, ⟨_, rfl, .int _ _⟩, ⟨_, rfl, .int _ _⟩, trivial⟩ ⟨⟨by decide, _, rfl, pbox_ro 1 1 (by exact rfl) en⟩, ⟨by decide, _, rfl, (by show RO Try.prog _ (.map (encT T) ck) (.map (encT (T ++ [])) (ck + 0)); rw [List.append_nil]; exact RO.map _ _ _ (plain_rm _))⟩, ⟨by decide, _, rfl, (by first | exact .same (flat_plain _ pc_plain _) | exact .sameW (flat_plain _ pc_plain _))⟩, trivial⟩ .nil) ?_ ?_
      · intro out G en2 f hR hl
        simp only [Prod.mk.injEq] at hR
        obtain ⟨rfl, rfl, rfl, rfl⟩ := hR
        cases o with
        | nil => exact ⟨_, _, _, 0, rfl, fun h => absurd rfl h, rfl, rfl⟩
        | cons u us => exact ⟨_, _, _, 3, rfl, fun _ => ⟨by decide, by decide, rfl⟩, rfl, rfl⟩
      · intro e2 G en2 f he hR
        simp only [Prod.mk.injEq] at hR
        obtain ⟨rfl, rfl, rfl, rfl⟩ := hR
        exact ⟨_, _, _, 0, rfl, fun h => absurd rfl h, rfl, rfl⟩
    · exfalso
      obtain ⟨o', _, q⟩ := fits_out hp (check_zero g).2.2.2
      rw [q] at g2; cases g2
  · have hp : ptsT t = none := by simpa using g1
    have hpcs : pcsD t (bs s) = [(bs s, false)] := by unfold pcsD; rw [hp]
    rw [hpcs] at hD hps k3
    refine wr_loop a [(bs s, false)] 1 T ck en hT hps (by simp) _ hD (rc_slots [2] rfl rfl rfl (fun l e => by cases e) (by decide) (by decide) rfl rfl (wr_of rfl) ⟨⟨_, rfl, .ptr _ _ _ rfl⟩, ⟨_, rfl, .int _ _⟩, ⟨_, rfl, plain_rv 8 rfl⟩, ⟨_, rfl, .sl _ _ _ _ _ rfl⟩, ⟨_, rfl, .int _ _⟩, ⟨_, rfl, .int _ _⟩, trivial⟩ ⟨⟨by decide, _, rfl, pbox_ro 1 1 (by exact rfl) en⟩, ⟨by decide, _, rfl, (by show RO Try.prog _ (.map (encT T) ck) (.map (encT (T ++ [])) (ck + 0)); rw [List.append_nil]; exact RO.map _ _ _ (plain_rm _))⟩, ⟨by decide, _, rfl, ro_eq (by rw [str_mk s]; rfl) rfl⟩, trivial⟩ .nil) ?_ ?_
    · intro out G en2 f hR hl
      simp only [Prod.mk.injEq] at hR
      obtain ⟨rfl, rfl, rfl, rfl⟩ := hR
      cases o with
      | nil => exact ⟨_, _, _, 0, rfl, fun h => absurd rfl h, rfl, rfl⟩
      | cons u us => exact ⟨_, _, _, 3, rfl, fun _ => ⟨by decide, by decide, rfl⟩, rfl, rfl⟩
    · intro e2 G en2 f he hR
      simp only [Prod.mk.injEq] at hR
      obtain ⟨rfl, rfl, rfl, rfl⟩ := hR
      exact ⟨_, _, _, 0, rfl, fun h => absurd rfl h, rfl, rfl⟩
structure WrX where
  pb : Nat
  mb : Nat
  en : Nat
  T : List (Bl × Nat)
  ck : Nat
  a : Int
  t : Int
  s : ByteArray
  e : Int
  o : Bl
  F : List (Bl × Nat)
  en' : Nat
def packO (pb mb : Nat) (T : List (Bl × Nat)) (ck : Nat) (e : Int) (o : Bl) (F : List (Bl × Nat)) (en' : Nat) (H : Tr AObj) (n : Nat) : Res := match o with
  | [] => .ret (.tuple #[.slice none 0 0, .int .i64 e]) ((H.set pb (some (.cells [.map (some mb), .int .i64 (en' : Int)] 81))).set mb (some (.map (encT (T ++ F)) (ck + F.length)))) n [pb, mb]
  | u :: us => .ret (.tuple #[.slice (some ⟨n, 0, none⟩) (us.length + 1) U, .int .i64 e]) (((H.set pb (some (.cells [.map (some mb), .int .i64 (en' : Int)] 81))).set mb (some (.map (encT (T ++ F)) (ck + F.length)))).set n (some (.cells ((u :: us).map byV) 5))) (n + 1) [pb, mb]
theorem callOK_packO {f : FuncId} {args args0 : List Value} {H H0 H' : Tr AObj} {n m pb mb b en ck en' : Nat} {wr : List Nat} {T F : List (Bl × Nat)} {e : Int} {o : Bl} (hF : FnS Try.prog 0 f args0 H0 2 (.ret (.tuple #[ovN b o, .int .i64 e]) H' m wr))
    (hA : [pb, mb].Nodup) (hcb : CallB Try.prog [pb, mb] H H0) (harg : RL (caR [pb, mb]) args args0) (h2 : H.get pb = some (.cells [.map (some mb), .int .i64 (en : Int)] 81)) (h3 : H.get mb = some (.map (encT T) ck)) (w0 : 0 ∈ wr) (w1 : 1 ∈ wr)
    (gb : o ≠ [] → 2 ≤ b ∧ b < JJ ∧ H'.get b = some (.cells (o.map byV) 5)) (g2 : H'.get 0 = some (.cells [.map (some 1), .int .i64 (en' : Int)] 81)) (g3 : H'.get 1 = some (.map (encT (T ++ F)) (ck + F.length))) (hw0 : ∀ j, j < 2 → ∀ o, H0.get j = some o → ¬ o.isWin) :
    CallOK Try.prog 0 f args H n (packO pb mb T ck e o F en' H n) := by
  have hw : ∀ j ∈ [pb, mb], ∃ o, H.get j = some o ∧ ¬ o.isWin := fun j hj => by
    simp only [List.mem_cons, List.not_mem_nil, or_false] at hj
    rcases hj with rfl | rfl
    · exact ⟨_, h2, fun h => h⟩
    · exact ⟨_, h3, fun h => h⟩
  have hw0' : ∀ k o, H0.get k = some o → k < [pb, mb].length → ¬ o.isWin := fun k o h1 h2 => hw0 k h2 o h1
  have hbx : ∀ B : List Nat, RO Try.prog (tau [pb, mb] B n) (.cells [.map (some 1), .int .i64 (en' : Int)] 81) (.cells [.map (some mb), .int .i64 (en' : Int)] 81) := fun B => pbox_ro 1 mb (tau_old rfl) en'
  cases o with
  | nil =>
    refine callOK_sets [pb, mb] [] [(pb, some (.cells [.map (some mb), .int .i64 (en' : Int)] 81)), (mb, some (.map (encT (T ++ F)) (ck + F.length)))] hF hA hcb harg hw0' hw List.nodup_nil (fun x hx => by cases hx) (.tuple _ _ (.cons _ _ _ _ (.snil _ _) (.cons _ _ _ _ (.int _ _) .nil)))
      (fun p hp => by simp at hp; rcases hp with rfl | rfl <;> simp) (fun k j e1 _ => .inl (by have := List.mem_of_getElem? e1; simp at this; rcases this with rfl | rfl <;> simp)) (fun j ob hm => ?_)
    rcases List.mem_cons.1 hm with e | hm
    · cases e; exact ⟨0, _, tau_old rfl, g2, hbx _, fun _ => w0⟩
    rcases List.mem_cons.1 hm with e | hm
    · cases e; exact ⟨1, _, tau_old rfl, g3, RO.map _ _ _ (plain_rm _), fun _ => w1⟩
    · cases hm
  | cons u us =>
    obtain ⟨b1, b2, b3⟩ := gb (List.cons_ne_nil _ _)
    refine callOK_sets [pb, mb] [b] [(pb, some (.cells [.map (some mb), .int .i64 (en' : Int)] 81)), (mb, some (.map (encT (T ++ F)) (ck + F.length))), (n, some (.cells ((u :: us).map byV) 5))] hF hA hcb harg hw0' hw (by simp) (fun x hx => by simp at hx; subst hx; exact ⟨b1, b2, by rw [b3]; simp⟩) (.tuple _ _ (.cons _ _ _ _ (.sl _ _ _ _ _ (tau_new (A := [pb, mb]) b1)) (.cons _ _ _ _ (.int _ _) .nil)))
      (fun p hp => by simp at hp; rcases hp with rfl | rfl | rfl <;> simp) (fun k j e1 _ => .inl (by have := List.mem_of_getElem? e1; simp at this; rcases this with rfl | rfl <;> simp)) (fun j ob hm => ?_)
    rcases List.mem_cons.1 hm with e | hm
    · cases e; exact ⟨0, _, tau_old rfl, g2, hbx _, fun _ => w0⟩
    rcases List.mem_cons.1 hm with e | hm
    · cases e; exact ⟨1, _, tau_old rfl, g3, RO.map _ _ _ (plain_rm _), fun _ => w1⟩
    rcases List.mem_cons.1 hm with e | hm
    · cases e; exact ⟨b, _, tau_new (A := [pb, mb]) b1, b3, .same (byV_plain _), fun h => by have h : b < 2 := h; omega⟩
    · cases hm
theorem packB {pb mb en : Nat} {T : List (Bl × Nat)} {ck : Nat} {H : Tr AObj} (h2 : H.get pb = some (.cells [.map (some mb), .int .i64 (en : Int)] 81)) (h3 : H.get mb = some (.map (encT T) ck)) :
    [pb, mb].Nodup ∧ CallB Try.prog [pb, mb] H (heap 2 [(0, .cells [.map (some 1), .int .i64 (en : Int)] 81), (1, .map (encT T) ck)]) ∧ ∀ j, j < 2 → ∀ o, (heap 2 [(0, AObj.cells [.map (some 1), .int .i64 (en : Int)] 81), (1, .map (encT T) ck)]).get j = some o → ¬ o.isWin := by
  have hne : pb ≠ mb := fun e => by subst e; rw [h2] at h3; cases h3
  refine ⟨by simp [hne], callB_of ⟨⟨pb, _, rfl, h2, pbox_ro mb 1 rfl en⟩, ⟨mb, _, rfl, h3, RO.map _ _ _ (plain_rm _)⟩, trivial⟩, fun j hj ob ho => ?_⟩
  match j, hj, ho with
  | 0, _, ho => have ho : some (AObj.cells _ _) = some ob := ho; cases ho; exact fun h => h
  | 1, _, ho => have ho : some (AObj.map _ _) = some ob := ho; cases ho; exact fun h => h
theorem pack_uniq {pb mb mb' en en' : Nat} {T T' : List (Bl × Nat)} {ck ck' : Nat} {H : Tr AObj} (h2 : H.get pb = some (.cells [.map (some mb), .int .i64 (en : Int)] 81)) (h3 : H.get mb = some (.map (encT T) ck)) (k2 : H.get pb = some (.cells [.map (some mb'), .int .i64 (en' : Int)] 81)) (k3 : H.get mb' = some (.map (encT T') ck')) : mb = mb' ∧ en = en' ∧ T = T' ∧ ck = ck' := by
  rw [h2] at k2
  simp only [Option.some.injEq, AObj.cells.injEq, List.cons.injEq, Value.map.injEq, Value.int.injEq, true_and, and_true] at k2
  obtain ⟨rfl, e⟩ := k2
  rw [h3] at k3
  simp only [Option.some.injEq, AObj.map.injEq] at k3
  exact ⟨rfl, by omega, encT_inj k3.1, k3.2⟩
theorem packO_frc {pb mb : Nat} {T : List (Bl × Nat)} {ck : Nat} {e : Int} {o : Bl} {F : List (Bl × Nat)} {en' : Nat} {H : Tr AObj} {n : Nat} {K : Res → Prop} (h : frcN pb fun pb => frcN mb fun mb => K (packO pb mb T ck e o F en' H n)) : K (packO pb mb T ck e o F en' H n) := by rw [frcN_eq, frcN_eq] at h; exact h
noncomputable def ct_write : Ct Try.prog 0 :=
  CtR.ct { f := 27, X := WrX,
           pre := fun x as0 H _ => as0 = [.pointer (some ⟨x.pb, 0, none⟩), .int .i64 x.a, .int .i64 x.t, .string x.s] ∧ H.get x.pb = some (.cells [.map (some x.mb), .int .i64 (x.en : Int)] 81) ∧ H.get x.mb = some (.map (encT x.T) x.ck) ∧ goodT x.T ∧ shortB x.s = true ∧ wrD x.en x.T x.a x.t (bs x.s) = (x.e, x.o, x.F, x.en'),
           out := fun x H n => packO x.pb x.mb x.T x.ck x.e x.o x.F x.en' H n,
           tr := fun x H n K => frcN x.pb fun pb => frcN x.mb fun mb => K (packO pb mb x.T x.ck x.e x.o x.F x.en' H n),
           trOk := fun x H n K h => packO_frc h,
           ok := fun x as0 H n ⟨h1, h2, h3, h4, h5, h6⟩ => by
             subst h1
             obtain ⟨pb, mb, en, T, ck, a, t, s, e, o, F, en'⟩ := x
             obtain ⟨q1, q2, q3⟩ := packB h2 h3
             obtain ⟨r, hF, H', m, wr, b, rfl, g1, g2, g3⟩ := write_fn a t s en T ck h4 h5 e o F en' h6
             have := callOK_packO (n := n) (hF.wr [0, 1]) q1 q2 (.cons _ _ _ _ (.ptr _ _ _ rfl) (.cons _ _ _ _ (.int _ _) (.cons _ _ _ _ (.int _ _) (.cons _ _ _ _ (.string _) .nil)))) h2 h3 (by simp) (by simp) g1 g2 g3 q3
             cases o <;> exact this,
           uniq := fun x y as0 H n ⟨h1, h2, h3, _, _, h6⟩ ⟨k1, k2, k3, _, _, k6⟩ => by
             obtain ⟨pb, mb, en, T, ck, a, t, s, e, o, F, en1⟩ := x
             obtain ⟨pb', mb', en', T', ck', a', t', s', e', o', F', en1'⟩ := y
             rw [h1] at k1
             simp only [List.cons.injEq, Value.pointer.injEq, Option.some.injEq, Addr.mk.injEq, and_true, Value.int.injEq, true_and, Value.string.injEq] at k1
             obtain ⟨rfl, rfl, rfl, rfl⟩ := k1
             obtain ⟨rfl, rfl, rfl, rfl⟩ := pack_uniq h2 h3 k2 k3
             have := h6.symm.trans k6
             simp only [Prod.mk.injEq] at this
             obtain ⟨rfl, rfl, rfl, rfl⟩ := this
             rfl }
end Go.Proofs.Ytjdecbfjpkpepaa
namespace Go.Proofs.Ytjdecbfjpkpepaa
open Go Go.RowKit
set_option maxRecDepth 1000000 in
set_option maxHeartbeats 8000000 in
theorem rwo_fn (a t : Int) (s : ByteArray) (en : Nat) (T : List (Bl × Nat)) (hT : goodT T) (hT0 : T ≠ []) (hTl : T.length ≤ 900000000) (hs : (bs s).length ≤ 100000000) (e : Int) (o : Bl) (F : List (Bl × Nat)) (en' : Nat) (hD : wrD en T a t (bs s) = (e, o, F, en')) :
    ∃ r, FnS Try.prog 0 28 [.pointer (some ⟨0, 0, none⟩), .int .i64 a, .int .i64 t, .string s] (heap 2 [(0, .cells [.slice (some ⟨1, 0, none⟩) T.length U, .int .i64 (en : Int)] 54), (1, .cells (T.flatMap layT.g) 97)]) 2 r ∧
      ∃ H m wr b l, r = .ret (.tuple #[ovN b o, .int .i64 e]) H m wr ∧ (o ≠ [] → 2 ≤ b ∧ b < JJ ∧ H.get b = some (.cells (o.map byV) 5)) ∧ (F = [] ∧ l = 1 ∨ F ≠ [] ∧ 2 ≤ l ∧ l < JJ ∧ (o ≠ [] → l ≠ b)) ∧ H.get 0 = some (.cells [.slice (some ⟨l, 0, none⟩) (T ++ F).length U, .int .i64 (en' : Int)] 54) ∧ H.get l = some (.cells ((T ++ F).flatMap layT.g) 97) := by
  refine fn_sx mixed tbWq [1] Try.func28 (c := bodyOf Try.f28) (by kernel_rfl) ?_
  refine And.intro (size8 hs) ?_
  unfold wrD at hD
  refine ifK (fun g => ?_) (fun g => ?_)
  · have g : checkD t (bs s) ≠ 0 := by simpa using g
    rw [if_pos g] at hD
    simp only [Prod.mk.injEq] at hD
    obtain ⟨rfl, rfl, rfl, rfl⟩ := hD
    exact ⟨_, _, _, 0, 1, rfl, fun h => absurd rfl h, .inl ⟨rfl, rfl⟩, by rw [List.append_nil]; rfl, by rw [List.append_nil]; rfl⟩
  have g := checkD_no g
  rw [if_neg (by simpa using g)] at hD
  obtain ⟨k1, k2, k3, k4⟩ := pcsD_ok g
  obtain ⟨z1, z2⟩ := pcsR_eq (check_zero g).2.2.2
  obtain ⟨Z, hZ⟩ : ∃ Z, Z = (formL t).zip (rpO t (bs s)) := ⟨_, rfl⟩
  have hZp : Z.map pcZ = pcsD t (bs s) := by rw [hZ]; exact z1
  have hz : Z.length = (formL t).length := by rw [hZ, List.length_zip]; omega
  have y1 : Z.map zi = (formL t).map intV := by rw [hZ, show zi = intV ∘ Prod.fst from rfl, ← List.map_map, List.map_fst_zip (by omega)]
  have y2 : Z.map zs = (rpO t (bs s)).map str := by rw [hZ, show zs = str ∘ Prod.snd from rfl, ← List.map_map, List.map_snd_zip (by omega)]
  have hps : ∀ p ∈ Z, p.2.length ≤ 65535 := fun p hp => by
    have hm : pcZ p ∈ pcsD t (bs s) := by rw [← hZp]; exact List.mem_map_of_mem hp
    obtain ⟨i, hi, e1⟩ := List.mem_iff_getElem.1 hm
    have := sumL_at _ i hi
    rw [e1] at this
    have this : p.2.length ≤ _ := this
    omega
  have hl : Z.length ≤ 1000 := by have := congrArg List.length hZp; rw [List.length_map] at this; omega
  rw [← hZp] at hD
  refine And.intro (size8 hs) ?_
  refine ifK (fun g1 => ?_) (fun g1 => absurd (check_zero g).2.2.2 (by rw [fits_no g1]; decide))
  refine rwo_loop a Z T en hT hT0 hTl hps hl _ hD (rc_slots [2, 3] rfl rfl rfl (fun l e => by cases e) (by decide) (by decide) rfl rfl (wr_of rfl) ⟨⟨_, rfl, .ptr _ _ _ rfl⟩, ⟨_, rfl, .int _ _⟩, ⟨_, rfl, ?_⟩, ⟨_, rfl, ?_⟩, ⟨_, rfl, plain_rv 8 rfl⟩, ⟨_, rfl, .int _ _⟩, trivial⟩ ⟨⟨by decide, _, rfl, box_ro _ 1 1 (by rfl) _ _⟩, ⟨by decide, _, rfl, (by first | exact .same (pT_all T) | exact .sameW (pT_all T))⟩, ⟨by decide, _, rfl, ro_eq y1.symm (zi_plain _)⟩, ⟨by decide, _, rfl, ro_eq y2.symm (zs_plain _)⟩, trivial⟩ .nil) ?_ ?_
  · rw [hz]; exact .sl _ _ _ _ _ rfl
  · rw [hz, z2]; exact .sl _ _ _ _ _ rfl
  · intro out G en2 f hR hoF hl2
    simp only [Prod.mk.injEq] at hR
    obtain ⟨rfl, rfl, rfl, rfl⟩ := hR
    cases o with
    | nil =>
      have hF0 := hoF rfl
      subst hF0
      exact ⟨_, _, _, 0, 1, rfl, fun h => absurd rfl h, .inl ⟨rfl, rfl⟩, by rw [List.append_nil]; rfl, by rw [List.append_nil]; rfl⟩
    | cons u us =>
      cases F with
      | nil => exact ⟨_, _, _, 4, 1, rfl, fun _ => ⟨by decide, by decide, rfl⟩, .inl ⟨rfl, rfl⟩, by rw [List.append_nil]; rfl, by rw [List.append_nil]; rfl⟩
      | cons p F => exact ⟨_, _, _, 5, 4, rfl, fun _ => ⟨by decide, by decide, rfl⟩, .inr ⟨List.cons_ne_nil _ _, by decide, by decide, fun _ => by decide⟩, rfl, rfl⟩
  · intro e2 G en2 f he hR
    simp only [Prod.mk.injEq] at hR
    obtain ⟨rfl, rfl, rfl, rfl⟩ := hR
    cases F with
    | nil => exact ⟨_, _, _, 0, 1, rfl, fun h => absurd rfl h, .inl ⟨rfl, rfl⟩, by rw [List.append_nil]; rfl, by rw [List.append_nil]; rfl⟩
    | cons p F => exact ⟨_, _, _, 0, 2, rfl, fun h => absurd rfl h, .inr ⟨List.cons_ne_nil _ _, by decide, by decide, fun h => absurd rfl h⟩, rfl, rfl⟩
set_option maxRecDepth 1000000 in
set_option maxHeartbeats 8000000 in
theorem rwn_fn (a t : Int) (s : ByteArray) (en : Nat) (hs : (bs s).length ≤ 100000000) (e : Int) (o : Bl) (F : List (Bl × Nat)) (en' : Nat) (hD : wrD en [] a t (bs s) = (e, o, F, en')) :
    ∃ r, FnS Try.prog 0 28 [.pointer (some ⟨0, 0, none⟩), .int .i64 a, .int .i64 t, .string s] (heap 1 [(0, .cells [.slice none 0 0, .int .i64 (en : Int)] 54)]) 1 r ∧
      ∃ H m wr b l, r = .ret (.tuple #[ovN b o, .int .i64 e]) H m wr ∧ (o ≠ [] → 1 ≤ b ∧ b < JJ ∧ H.get b = some (.cells (o.map byV) 5)) ∧ (F = [] ∧ H.get 0 = some (.cells [.slice none 0 0, .int .i64 (en' : Int)] 54) ∨ F ≠ [] ∧ (1 ≤ l ∧ l < JJ ∧ (o ≠ [] → l ≠ b)) ∧ H.get 0 = some (.cells [.slice (some ⟨l, 0, none⟩) F.length U, .int .i64 (en' : Int)] 54) ∧ H.get l = some (.cells (F.flatMap layT.g) 97)) := by
  refine fn_sx mixed tbWq [1] Try.func28 (c := bodyOf Try.f28) (by kernel_rfl) ?_
  refine And.intro (size8 hs) ?_
  unfold wrD at hD
  refine ifK (fun g => ?_) (fun g => ?_)
  · have g : checkD t (bs s) ≠ 0 := by simpa using g
    rw [if_pos g] at hD
    simp only [Prod.mk.injEq] at hD
    obtain ⟨rfl, rfl, rfl, rfl⟩ := hD
    exact ⟨_, _, _, 0, 0, rfl, fun h => absurd rfl h, .inl ⟨rfl, rfl⟩⟩
  have g := checkD_no g
  rw [if_neg (by simpa using g)] at hD
  obtain ⟨k1, k2, k3, k4⟩ := pcsD_ok g
  obtain ⟨z1, z2⟩ := pcsR_eq (check_zero g).2.2.2
  obtain ⟨Z, hZ⟩ : ∃ Z, Z = (formL t).zip (rpO t (bs s)) := ⟨_, rfl⟩
  have hZp : Z.map pcZ = pcsD t (bs s) := by rw [hZ]; exact z1
  have hz : Z.length = (formL t).length := by rw [hZ, List.length_zip]; omega
  have y1 : Z.map zi = (formL t).map intV := by rw [hZ, show zi = intV ∘ Prod.fst from rfl, ← List.map_map, List.map_fst_zip (by omega)]
  have y2 : Z.map zs = (rpO t (bs s)).map str := by rw [hZ, show zs = str ∘ Prod.snd from rfl, ← List.map_map, List.map_snd_zip (by omega)]
  have hps : ∀ p ∈ Z, p.2.length ≤ 65535 := fun p hp => by
    have hm : pcZ p ∈ pcsD t (bs s) := by rw [← hZp]; exact List.mem_map_of_mem hp
    obtain ⟨i, hi, e1⟩ := List.mem_iff_getElem.1 hm
    have := sumL_at _ i hi
    rw [e1] at this
    have this : p.2.length ≤ _ := this
    omega
  have hl : Z.length ≤ 1000 := by have := congrArg List.length hZp; rw [List.length_map] at this; omega
  rw [← hZp] at hD
  refine And.intro (size8 hs) ?_
  refine ifK (fun g1 => ?_) (fun g1 => absurd (check_zero g).2.2.2 (by rw [fits_no g1]; decide))
  refine rwn_loop a Z en hps hl _ hD (rc_slots [1, 2] rfl rfl rfl (fun l e => by cases e) (by decide) (by decide) rfl rfl (wr_of rfl) ⟨⟨_, rfl, .ptr _ _ _ rfl⟩, ⟨_, rfl, .int _ _⟩, ⟨_, rfl, ?_⟩, ⟨_, rfl, ?_⟩, ⟨_, rfl, plain_rv 8 rfl⟩, ⟨_, rfl, .int _ _⟩, trivial⟩ ⟨⟨by decide, _, rfl, .same rfl⟩, ⟨by decide, _, rfl, ro_eq y1.symm (zi_plain _)⟩, ⟨by decide, _, rfl, ro_eq y2.symm (zs_plain _)⟩, trivial⟩ .nil) ?_ ?_
  · rw [hz]; exact .sl _ _ _ _ _ rfl
  · rw [hz, z2]; exact .sl _ _ _ _ _ rfl
  · intro out G en2 f hR hoF hl2
    simp only [Prod.mk.injEq] at hR
    obtain ⟨rfl, rfl, rfl, rfl⟩ := hR
    cases o with
    | nil =>
      have hF0 := hoF rfl
      subst hF0
      exact ⟨_, _, _, 0, 0, rfl, fun h => absurd rfl h, .inl ⟨rfl, rfl⟩⟩
    | cons u us =>
      cases F with
      | nil => exact ⟨_, _, _, 3, 0, rfl, fun _ => ⟨by decide, by decide, rfl⟩, .inl ⟨rfl, rfl⟩⟩
      | cons p F => exact ⟨_, _, _, 4, 3, rfl, fun _ => ⟨by decide, by decide, rfl⟩, .inr ⟨List.cons_ne_nil _ _, ⟨by decide, by decide, fun _ => by decide⟩, rfl, rfl⟩⟩
  · intro e2 G en2 f he hR
    simp only [Prod.mk.injEq] at hR
    obtain ⟨rfl, rfl, rfl, rfl⟩ := hR
    cases F with
    | nil => exact ⟨_, _, _, 0, 0, rfl, fun h => absurd rfl h, .inl ⟨rfl, rfl⟩⟩
    | cons p F => exact ⟨_, _, _, 0, 1, rfl, fun h => absurd rfl h, .inr ⟨List.cons_ne_nil _ _, ⟨by decide, by decide, fun h => absurd rfl h⟩, rfl, rfl⟩⟩
def rwO (pb : Nat) (v : Option Nat) (T : List (Bl × Nat)) (e : Int) (o : Bl) (F : List (Bl × Nat)) (en' : Nat) (H : Tr AObj) (n : Nat) : Res := match v, F, o with
  | none, [], [] => .ret (.tuple #[.slice none 0 0, .int .i64 e]) (setL H [(pb, some (.cells [.slice none 0 0, .int .i64 (en' : Int)] 54))]) n [pb]
  | none, [], u :: us => .ret (.tuple #[.slice (some ⟨n, 0, none⟩) (us.length + 1) U, .int .i64 e]) (setL H [(pb, some (.cells [.slice none 0 0, .int .i64 (en' : Int)] 54)), (n, some (.cells ((u :: us).map byV) 5))]) (n + 1) [pb]
  | none, p :: F, [] => .ret (.tuple #[.slice none 0 0, .int .i64 e]) (setL H [(pb, some (.cells [.slice (some ⟨n, 0, none⟩) (T ++ p :: F).length U, .int .i64 (en' : Int)] 54)), (n, some (.cells ((T ++ p :: F).flatMap layT.g) 97))]) (n + 1) [pb]
  | none, p :: F, u :: us => .ret (.tuple #[.slice (some ⟨n, 0, none⟩) (us.length + 1) U, .int .i64 e]) (setL H [(pb, some (.cells [.slice (some ⟨n + 1, 0, none⟩) (T ++ p :: F).length U, .int .i64 (en' : Int)] 54)), (n, some (.cells ((u :: us).map byV) 5)), (n + 1, some (.cells ((T ++ p :: F).flatMap layT.g) 97))]) (n + 2) [pb]
  | some b, [], [] => .ret (.tuple #[.slice none 0 0, .int .i64 e]) (setL H [(pb, some (.cells [.slice (some ⟨b, 0, none⟩) T.length U, .int .i64 (en' : Int)] 54))]) n [pb, b]
  | some b, [], u :: us => .ret (.tuple #[.slice (some ⟨n, 0, none⟩) (us.length + 1) U, .int .i64 e]) (setL H [(pb, some (.cells [.slice (some ⟨b, 0, none⟩) T.length U, .int .i64 (en' : Int)] 54)), (n, some (.cells ((u :: us).map byV) 5))]) (n + 1) [pb, b]
  | some b, p :: F, [] => .ret (.tuple #[.slice none 0 0, .int .i64 e]) (setL H [(pb, some (.cells [.slice (some ⟨n, 0, none⟩) (T ++ p :: F).length U, .int .i64 (en' : Int)] 54)), (b, none), (n, some (.cells ((T ++ p :: F).flatMap layT.g) 97))]) (n + 1) [pb, b]
  | some b, p :: F, u :: us => .ret (.tuple #[.slice (some ⟨n, 0, none⟩) (us.length + 1) U, .int .i64 e]) (setL H [(pb, some (.cells [.slice (some ⟨n + 1, 0, none⟩) (T ++ p :: F).length U, .int .i64 (en' : Int)] 54)), (b, none), (n, some (.cells ((u :: us).map byV) 5)), (n + 1, some (.cells ((T ++ p :: F).flatMap layT.g) 97))]) (n + 2) [pb, b]
set_option maxHeartbeats 8000000 in
theorem callOK_rwO2 {f : FuncId} {args args0 : List Value} {H H0 H' : Tr AObj} {n m pb lb b en en' l : Nat} {wr : List Nat} {T F : List (Bl × Nat)} {e : Int} {o : Bl} (hF : FnS Try.prog 0 f args0 H0 2 (.ret (.tuple #[ovN b o, .int .i64 e]) H' m wr))
    (hA : [pb, lb].Nodup) (hcb : CallB Try.prog [pb, lb] H H0) (harg : RL (caR [pb, lb]) args args0) (h2 : H.get pb = some (.cells [.slice (some ⟨lb, 0, none⟩) T.length U, .int .i64 (en : Int)] 54)) (h3 : H.get lb = some (.cells (T.flatMap layT.g) 97)) (w0 : 0 ∈ wr) (w1 : 1 ∈ wr)
    (gb : o ≠ [] → 2 ≤ b ∧ b < JJ ∧ H'.get b = some (.cells (o.map byV) 5)) (gl : F = [] ∧ l = 1 ∨ F ≠ [] ∧ 2 ≤ l ∧ l < JJ ∧ (o ≠ [] → l ≠ b)) (g2 : H'.get 0 = some (.cells [.slice (some ⟨l, 0, none⟩) (T ++ F).length U, .int .i64 (en' : Int)] 54)) (g3 : H'.get l = some (.cells ((T ++ F).flatMap layT.g) 97)) (hw0 : ∀ j, j < 2 → ∀ o, H0.get j = some o → ¬ o.isWin) :
    CallOK Try.prog 0 f args H n (rwO pb (some lb) T e o F en' H n) := by
  have hw : ∀ j ∈ [pb, lb], ∃ o, H.get j = some o ∧ ¬ o.isWin := fun j hj => by
    simp only [List.mem_cons, List.not_mem_nil, or_false] at hj
    rcases hj with rfl | rfl
    · exact ⟨_, h2, fun h => h⟩
    · exact ⟨_, h3, fun h => h⟩
  have hw0' : ∀ k o, H0.get k = some o → k < [pb, lb].length → ¬ o.isWin := fun k o h1 h2 => hw0 k h2 o h1
  rcases gl with ⟨f0, rfl⟩ | ⟨f0, hl1, hlJ, hlb⟩
  · subst f0
    rw [List.append_nil] at g2 g3
    cases o with
    | nil =>
      refine callOK_sets (n := n) [pb, lb] [] [(pb, some (.cells [.slice (some ⟨lb, 0, none⟩) T.length U, .int .i64 (en' : Int)] 54))] hF hA hcb harg hw0' hw (by simp) (fun x hx => by cases hx)
        (.tuple _ _ (.cons _ _ _ _ (.snil _ _) (.cons _ _ _ _ (.int _ _) .nil))) (fun p hp => by simp at hp; subst hp <;> simp) (fun q j e1 _ => by
        match q, e1 with
        | 0, e1 => cases e1; exact .inl (by simp)
        | 1, e1 => cases e1; exact .inr ⟨_, _, h3, g3, .same (pT_all T)⟩
        | q + 2, e1 => simp at e1) (fun j ob hm => ?_)
      rcases List.mem_cons.1 hm with e | hm
      · cases e; exact ⟨0, _, tau_old rfl, g2, box_ro _ _ _ (tau_old rfl) _ _, fun _ => w0⟩
      cases hm
    | cons u us =>
      obtain ⟨b1, b2, b3⟩ := gb (List.cons_ne_nil _ _)
      have t1 : tau [pb, lb] [b] n b n := tau_at 0 (by simp) b1 rfl
      refine callOK_sets (n := n) [pb, lb] [b] [(pb, some (.cells [.slice (some ⟨lb, 0, none⟩) T.length U, .int .i64 (en' : Int)] 54)), (n, some (.cells ((u :: us).map byV) 5))] hF hA hcb harg hw0' hw (by simp) (fun x hx => by simp at hx; subst hx; exact ⟨b1, b2, by rw [b3]; simp⟩)
        (.tuple _ _ (.cons _ _ _ _ (.sl _ _ _ _ _ t1) (.cons _ _ _ _ (.int _ _) .nil))) (fun p hp => by simp at hp; rcases hp with rfl | rfl <;> simp) (fun q j e1 _ => by
        match q, e1 with
        | 0, e1 => cases e1; exact .inl (by simp)
        | 1, e1 => cases e1; exact .inr ⟨_, _, h3, g3, .same (pT_all T)⟩
        | q + 2, e1 => simp at e1) (fun j ob hm => ?_)
      rcases List.mem_cons.1 hm with e | hm
      · cases e; exact ⟨0, _, tau_old rfl, g2, box_ro _ _ _ (tau_old rfl) _ _, fun _ => w0⟩
      rcases List.mem_cons.1 hm with e | hm
      · cases e; exact ⟨b, _, t1, b3, .same (byV_plain _), fun h => by have h : b < 2 := h; omega⟩
      cases hm
  · obtain ⟨p, F, rfl⟩ : ∃ p F', F = p :: F' := by cases F with | nil => exact absurd rfl f0 | cons p F => exact ⟨p, F, rfl⟩
    cases o with
    | nil =>
      have t2 : tau [pb, lb] [l] n l n := tau_at 0 (by simp) hl1 rfl
      refine callOK_sets (n := n) [pb, lb] [l] [(pb, some (.cells [.slice (some ⟨n, 0, none⟩) (T ++ p :: F).length U, .int .i64 (en' : Int)] 54)), (lb, none), (n, some (.cells ((T ++ p :: F).flatMap layT.g) 97))] hF hA hcb harg hw0' hw (by simp) (fun x hx => by simp at hx; subst hx; exact ⟨hl1, hlJ, by rw [g3]; simp⟩)
        (.tuple _ _ (.cons _ _ _ _ (.snil _ _) (.cons _ _ _ _ (.int _ _) .nil))) (fun p hp => by simp at hp; rcases hp with rfl | rfl | rfl <;> simp) (fun q j e1 _ => .inl (by have := List.mem_of_getElem? e1; simp at this; rcases this with rfl | rfl <;> simp)) (fun j ob hm => ?_)
      rcases List.mem_cons.1 hm with e | hm
      · cases e; exact ⟨0, _, tau_old rfl, g2, box_ro _ _ _ t2 _ _, fun _ => w0⟩
      rcases List.mem_cons.1 hm with e | hm
      · cases e
      rcases List.mem_cons.1 hm with e | hm
      · cases e; exact ⟨l, _, t2, g3, .same (pT_all _), fun h => by have h : l < 2 := h; omega⟩
      cases hm
    | cons u us =>
      obtain ⟨b1, b2, b3⟩ := gb (List.cons_ne_nil _ _)
      have hBn : [b, l].Nodup := by simp [Ne.symm (hlb (List.cons_ne_nil _ _))]
      have t1 : tau [pb, lb] [b, l] n b n := tau_at 0 hBn b1 rfl
      have t2 : tau [pb, lb] [b, l] n l (n + 1) := tau_at 1 hBn hl1 rfl
      refine callOK_sets (n := n) [pb, lb] [b, l] [(pb, some (.cells [.slice (some ⟨n + 1, 0, none⟩) (T ++ p :: F).length U, .int .i64 (en' : Int)] 54)), (lb, none), (n, some (.cells ((u :: us).map byV) 5)), (n + 1, some (.cells ((T ++ p :: F).flatMap layT.g) 97))] hF hA hcb harg hw0' hw hBn (fun x hx => by
        simp only [List.mem_cons, List.not_mem_nil, or_false] at hx
        rcases hx with rfl | rfl
        · exact ⟨b1, b2, by rw [b3]; simp⟩
        · exact ⟨hl1, hlJ, by rw [g3]; simp⟩)
        (.tuple _ _ (.cons _ _ _ _ (.sl _ _ _ _ _ t1) (.cons _ _ _ _ (.int _ _) .nil))) (fun p hp => by simp at hp; rcases hp with rfl | rfl | rfl | rfl <;> simp) (fun q j e1 _ => .inl (by have := List.mem_of_getElem? e1; simp at this; rcases this with rfl | rfl <;> simp)) (fun j ob hm => ?_)
      rcases List.mem_cons.1 hm with e | hm
      · cases e; exact ⟨0, _, tau_old rfl, g2, box_ro _ _ _ t2 _ _, fun _ => w0⟩
      rcases List.mem_cons.1 hm with e | hm
      · cases e
      rcases List.mem_cons.1 hm with e | hm
      · cases e; exact ⟨b, _, t1, b3, .same (byV_plain _), fun h => by have h : b < 2 := h; omega⟩
      rcases List.mem_cons.1 hm with e | hm
      · cases e; exact ⟨l, _, t2, g3, .same (pT_all _), fun h => by have h : l < 2 := h; omega⟩
      cases hm
set_option maxHeartbeats 8000000 in
theorem callOK_rwO1 {f : FuncId} {args args0 : List Value} {H H0 H' : Tr AObj} {n m pb b en en' l : Nat} {wr : List Nat} {T F : List (Bl × Nat)} {e : Int} {o : Bl} (hF : FnS Try.prog 0 f args0 H0 1 (.ret (.tuple #[ovN b o, .int .i64 e]) H' m wr))
    (hA : [pb].Nodup) (hcb : CallB Try.prog [pb] H H0) (harg : RL (caR [pb]) args args0) (h2 : H.get pb = some (.cells [.slice none 0 0, .int .i64 (en : Int)] 54)) (w0 : 0 ∈ wr)
    (gb : o ≠ [] → 1 ≤ b ∧ b < JJ ∧ H'.get b = some (.cells (o.map byV) 5)) (hT0 : T = []) (gl : F = [] ∧ H'.get 0 = some (.cells [.slice none 0 0, .int .i64 (en' : Int)] 54) ∨ F ≠ [] ∧ (1 ≤ l ∧ l < JJ ∧ (o ≠ [] → l ≠ b)) ∧ H'.get 0 = some (.cells [.slice (some ⟨l, 0, none⟩) F.length U, .int .i64 (en' : Int)] 54) ∧ H'.get l = some (.cells (F.flatMap layT.g) 97)) (hw0 : ∀ j, j < 1 → ∀ o, H0.get j = some o → ¬ o.isWin) :
    CallOK Try.prog 0 f args H n (rwO pb none T e o F en' H n) := by
  have hw : ∀ j ∈ [pb], ∃ o, H.get j = some o ∧ ¬ o.isWin := fun j hj => by
    simp only [List.mem_cons, List.not_mem_nil, or_false] at hj
    subst hj; exact ⟨_, h2, fun h => h⟩
  have hw0' : ∀ k o, H0.get k = some o → k < [pb].length → ¬ o.isWin := fun k o h1 h2 => hw0 k h2 o h1
  subst hT0
  rcases gl with ⟨f0, g2⟩ | ⟨f0, ⟨hl1, hlJ, hlb⟩, g2, g3⟩
  · subst f0
    cases o with
    | nil =>
      refine callOK_sets (n := n) [pb] [] [(pb, some (.cells [.slice none 0 0, .int .i64 (en' : Int)] 54))] hF hA hcb harg hw0' hw (by simp) (fun x hx => by cases hx)
        (.tuple _ _ (.cons _ _ _ _ (.snil _ _) (.cons _ _ _ _ (.int _ _) .nil))) (fun p hp => by simp at hp; subst hp <;> simp) (fun q j e1 _ => .inl (by have := List.mem_of_getElem? e1; simp at this; subst this; simp)) (fun j ob hm => ?_)
      rcases List.mem_cons.1 hm with e | hm
      · cases e; exact ⟨0, _, tau_old rfl, g2, .same rfl, fun _ => w0⟩
      cases hm
    | cons u us =>
      obtain ⟨b1, b2, b3⟩ := gb (List.cons_ne_nil _ _)
      have t1 : tau [pb] [b] n b n := tau_at 0 (by simp) b1 rfl
      refine callOK_sets (n := n) [pb] [b] [(pb, some (.cells [.slice none 0 0, .int .i64 (en' : Int)] 54)), (n, some (.cells ((u :: us).map byV) 5))] hF hA hcb harg hw0' hw (by simp) (fun x hx => by simp at hx; subst hx; exact ⟨b1, b2, by rw [b3]; simp⟩)
        (.tuple _ _ (.cons _ _ _ _ (.sl _ _ _ _ _ t1) (.cons _ _ _ _ (.int _ _) .nil))) (fun p hp => by simp at hp; rcases hp with rfl | rfl <;> simp) (fun q j e1 _ => .inl (by have := List.mem_of_getElem? e1; simp at this; subst this; simp)) (fun j ob hm => ?_)
      rcases List.mem_cons.1 hm with e | hm
      · cases e; exact ⟨0, _, tau_old rfl, g2, .same rfl, fun _ => w0⟩
      rcases List.mem_cons.1 hm with e | hm
      · cases e; exact ⟨b, _, t1, b3, .same (byV_plain _), fun h => by have h : b < 1 := h; omega⟩
      cases hm
  · obtain ⟨p, F, rfl⟩ : ∃ p F', F = p :: F' := by cases F with | nil => exact absurd rfl f0 | cons p F => exact ⟨p, F, rfl⟩
    cases o with
    | nil =>
      have t2 : tau [pb] [l] n l n := tau_at 0 (by simp) hl1 rfl
      refine callOK_sets (n := n) [pb] [l] [(pb, some (.cells [.slice (some ⟨n, 0, none⟩) ([] ++ p :: F).length U, .int .i64 (en' : Int)] 54)), (n, some (.cells (([] ++ p :: F).flatMap layT.g) 97))] hF hA hcb harg hw0' hw (by simp) (fun x hx => by simp at hx; subst hx; exact ⟨hl1, hlJ, by rw [g3]; simp⟩)
        (.tuple _ _ (.cons _ _ _ _ (.snil _ _) (.cons _ _ _ _ (.int _ _) .nil))) (fun p hp => by simp at hp; rcases hp with rfl | rfl <;> simp) (fun q j e1 _ => .inl (by have := List.mem_of_getElem? e1; simp at this; subst this; simp)) (fun j ob hm => ?_)
      rcases List.mem_cons.1 hm with e | hm
      · cases e; exact ⟨0, _, tau_old rfl, g2, box_ro _ _ _ t2 _ _, fun _ => w0⟩
      rcases List.mem_cons.1 hm with e | hm
      · cases e; exact ⟨l, _, t2, g3, .same (pT_all _), fun h => by have h : l < 1 := h; omega⟩
      cases hm
    | cons u us =>
      obtain ⟨b1, b2, b3⟩ := gb (List.cons_ne_nil _ _)
      have hBn : [b, l].Nodup := by simp [Ne.symm (hlb (List.cons_ne_nil _ _))]
      have t1 : tau [pb] [b, l] n b n := tau_at 0 hBn b1 rfl
      have t2 : tau [pb] [b, l] n l (n + 1) := tau_at 1 hBn hl1 rfl
      refine callOK_sets (n := n) [pb] [b, l] [(pb, some (.cells [.slice (some ⟨n + 1, 0, none⟩) ([] ++ p :: F).length U, .int .i64 (en' : Int)] 54)), (n, some (.cells ((u :: us).map byV) 5)), (n + 1, some (.cells (([] ++ p :: F).flatMap layT.g) 97))] hF hA hcb harg hw0' hw hBn (fun x hx => by
        simp only [List.mem_cons, List.not_mem_nil, or_false] at hx
        rcases hx with rfl | rfl
        · exact ⟨b1, b2, by rw [b3]; simp⟩
        · exact ⟨hl1, hlJ, by rw [g3]; simp⟩)
        (.tuple _ _ (.cons _ _ _ _ (.sl _ _ _ _ _ t1) (.cons _ _ _ _ (.int _ _) .nil))) (fun p hp => by simp at hp; rcases hp with rfl | rfl | rfl <;> simp) (fun q j e1 _ => .inl (by have := List.mem_of_getElem? e1; simp at this; subst this; simp)) (fun j ob hm => ?_)
      rcases List.mem_cons.1 hm with e | hm
      · cases e; exact ⟨0, _, tau_old rfl, g2, box_ro _ _ _ t2 _ _, fun _ => w0⟩
      rcases List.mem_cons.1 hm with e | hm
      · cases e; exact ⟨b, _, t1, b3, .same (byV_plain _), fun h => by have h : b < 1 := h; omega⟩
      rcases List.mem_cons.1 hm with e | hm
      · cases e; exact ⟨l, _, t2, g3, .same (pT_all _), fun h => by have h : l < 1 := h; omega⟩
      cases hm
structure RwX where
  pb : Nat
  v : Option Nat
  en : Nat
  T : List (Bl × Nat)
  a : Int
  t : Int
  s : ByteArray
  e : Int
  o : Bl
  F : List (Bl × Nat)
  en' : Nat
theorem rpackB {pb lb en : Nat} {T : List (Bl × Nat)} {H : Tr AObj} (h2 : H.get pb = some (.cells [.slice (some ⟨lb, 0, none⟩) T.length U, .int .i64 (en : Int)] 54)) (h3 : H.get lb = some (.cells (T.flatMap layT.g) 97)) :
    [pb, lb].Nodup ∧ CallB Try.prog [pb, lb] H (heap 2 [(0, .cells [.slice (some ⟨1, 0, none⟩) T.length U, .int .i64 (en : Int)] 54), (1, .cells (T.flatMap layT.g) 97)]) ∧ ∀ j, j < 2 → ∀ o, (heap 2 [(0, AObj.cells [.slice (some ⟨1, 0, none⟩) T.length U, .int .i64 (en : Int)] 54), (1, .cells (T.flatMap layT.g) 97)]).get j = some o → ¬ o.isWin := by
  refine ⟨by simp [pb_ne h2 h3], callB_of ⟨⟨pb, _, rfl, h2, box_ro (caR [pb, lb]) lb 1 rfl _ _⟩, ⟨lb, _, rfl, h3, .same (pT_all T)⟩, trivial⟩, fun j hj ob ho => ?_⟩
  match j, hj, ho with
  | 0, _, ho => have ho : some (AObj.cells _ _) = some ob := ho; cases ho; exact fun h => h
  | 1, _, ho => have ho : some (AObj.cells _ _) = some ob := ho; cases ho; exact fun h => h
theorem rpackB0 {pb en : Nat} {H : Tr AObj} (h2 : H.get pb = some (.cells [.slice none 0 0, .int .i64 (en : Int)] 54)) :
    [pb].Nodup ∧ CallB Try.prog [pb] H (heap 1 [(0, .cells [.slice none 0 0, .int .i64 (en : Int)] 54)]) ∧ ∀ j, j < 1 → ∀ o, (heap 1 [(0, AObj.cells [.slice none 0 0, .int .i64 (en : Int)] 54)]).get j = some o → ¬ o.isWin := by
  refine ⟨by simp, callB_of ⟨⟨pb, _, rfl, h2, .same rfl⟩, trivial⟩, fun j hj ob ho => ?_⟩
  match j, hj, ho with
  | 0, _, ho => have ho : some (AObj.cells _ _) = some ob := ho; cases ho; exact fun h => h
theorem rwO_frc {pb : Nat} {v : Option Nat} {T : List (Bl × Nat)} {e : Int} {o : Bl} {F : List (Bl × Nat)} {en' : Nat} {H : Tr AObj} {n : Nat} {K : Res → Prop} (h : frcN pb fun pb => match v with | none => K (rwO pb none T e o F en' H n) | some b => frcN b fun b => K (rwO pb (some b) T e o F en' H n)) : K (rwO pb v T e o F en' H n) := by
  rw [frcN_eq] at h
  cases v with
  | none => exact h
  | some b =>
    have h : (frcN b fun b => _) := h
    rw [frcN_eq] at h; exact h
noncomputable def ct_rwrite : Ct Try.prog 0 :=
  CtR.ct { f := 28, X := RwX,
           pre := fun x as0 H _ => as0 = [.pointer (some ⟨x.pb, 0, none⟩), .int .i64 x.a, .int .i64 x.t, .string x.s] ∧ H.get x.pb = some (.cells [rnV x.v x.T, .int .i64 (x.en : Int)] 54) ∧ rnAt x.v x.T H ∧ goodT x.T ∧ x.T.length ≤ 900000000 ∧ (bs x.s).length ≤ 100000000 ∧ wrD x.en x.T x.a x.t (bs x.s) = (x.e, x.o, x.F, x.en'),
           out := fun x H n => rwO x.pb x.v x.T x.e x.o x.F x.en' H n,
           tr := fun x H n K => frcN x.pb fun pb => match x.v with | none => K (rwO pb none x.T x.e x.o x.F x.en' H n) | some b => frcN b fun b => K (rwO pb (some b) x.T x.e x.o x.F x.en' H n),
           trOk := fun x H n K h => rwO_frc h,
           ok := fun x as0 H n ⟨h1, h2, h3, h4, h5, h6, h7⟩ => by
             subst h1
             obtain ⟨pb, v, en, T, a, t, s, e, o, F, en'⟩ := x
             cases v with
             | none =>
               have h3 : T = [] := h3
               subst h3
               obtain ⟨q1, q2, q3⟩ := rpackB0 h2
               obtain ⟨r, hF, H', m, wr, b, l, rfl, g1, g2⟩ := rwn_fn a t s en h6 e o F en' h7
               have := callOK_rwO1 (n := n) (hF.wr [0]) q1 q2 (.cons _ _ _ _ (.ptr _ _ _ rfl) (.cons _ _ _ _ (.int _ _) (.cons _ _ _ _ (.int _ _) (.cons _ _ _ _ (.string _) .nil)))) h2 (by simp) g1 rfl g2 q3
               cases F <;> cases o <;> exact this
             | some b =>
               obtain ⟨h3, hT0⟩ := h3
               obtain ⟨q1, q2, q3⟩ := rpackB h2 h3
               obtain ⟨r, hF, H', m, wr, b', l, rfl, g1, gl, g2, g3⟩ := rwo_fn a t s en T h4 hT0 h5 h6 e o F en' h7
               have := callOK_rwO2 (n := n) (hF.wr [0, 1]) q1 q2 (.cons _ _ _ _ (.ptr _ _ _ rfl) (.cons _ _ _ _ (.int _ _) (.cons _ _ _ _ (.int _ _) (.cons _ _ _ _ (.string _) .nil)))) h2 h3 (by simp) (by simp) g1 gl g2 g3 q3
               cases F <;> cases o <;> exact this,
           uniq := fun x y as0 H n ⟨h1, h2, h3, _, _, _, h6⟩ ⟨k1, k2, k3, _, _, _, k6⟩ => by
             obtain ⟨pb, v, en, T, a, t, s, e, o, F, en1⟩ := x
             obtain ⟨pb', v', en', T', a', t', s', e', o', F', en1'⟩ := y
             rw [h1] at k1
             simp only [List.cons.injEq, Value.pointer.injEq, Option.some.injEq, Addr.mk.injEq, and_true, Value.int.injEq, true_and, Value.string.injEq] at k1
             obtain ⟨rfl, rfl, rfl, rfl⟩ := k1
             obtain ⟨rfl, rfl, rfl⟩ := rn_pre h2 k2 h3 k3
             have := h6.symm.trans k6
             simp only [Prod.mk.injEq] at this
             obtain ⟨rfl, rfl, rfl, rfl⟩ := this
             rfl }
end Go.Proofs.Ytjdecbfjpkpepaa
namespace Go.Proofs.Ytjdecbfjpkpepaa
open Go Go.RowKit
noncomputable def tbSb : Tb Try.prog 0 := tbOf mixed []
theorem srcU {G : Gh} {b c : Nat} {pre post : List Value} {l : Bl} (hG : (G b).bind AObj.look = some (pre ++ l.flatMap layU.g ++ post)) : srcCells G 1 (.slice (some ⟨b, pre.length, none⟩) l.length c) = some (l.length, l.map fun b : UInt8 => Value.int .u8 (b.toNat : Int)) := by
  have h : l.flatMap layU.g = l.map fun b : UInt8 => Value.int .u8 (b.toNat : Int) := layU_flat l
  rw [← h]
  unfold srcCells
  cases hl : Nat.beq l.length 0 with
  | true =>
    have : l = [] := List.length_eq_zero_iff.1 (Nat.eq_of_beq_eq_true hl)
    subst this
    simp [hl]
  | false =>
    have h1 := flat_length layU.g layU.k layU.len l
    have h2 : layU.k = 1 := rfl
    rw [h2, Nat.mul_one] at h1
    simp only [hl, cond_false, hG]
    rw [Nat.ble_eq_true_of_le (by simp only [List.length_append, h1]; omega), cond_true, List.append_assoc, List.drop_left, Nat.mul_one, ← h1, List.take_left]
set_option maxRecDepth 1000000 in
set_option maxHeartbeats 4000000 in
theorem sameB_fn (c1 c2 : Nat) (a1 b1 a2 b2 : List Value) (l1 l2 : Bl) :
    ∃ r, FnS Try.prog 0 29 [.slice (some ⟨0, a1.length, none⟩) l1.length c1, .slice (some ⟨1, a2.length, none⟩) l2.length c2] (heap 2 [(0, .win (a1 ++ l1.flatMap layU.g ++ b1) layU.k), (1, .win (a2 ++ l2.flatMap layU.g ++ b2) layU.k)]) 2 r ∧ ∃ H m wr, r = .ret (.bool (decide (l1 = l2))) H m wr ∧ ∀ k ∈ wr, 2 ≤ k := by
  refine fn_sx mixed tbSb [0, 1] Try.func29 (c := bodyOf Try.f29) (by kernel_rfl) ?_
  refine Exists.intro l1 (And.intro (srcU rfl) ?_)
  refine Exists.intro l2 (And.intro (srcU rfl) ?_)
  refine ⟨_, _, _, congrArg (fun b => Res.ret (.bool b) _ _ _) ?_, wr_ge rfl⟩
  show ((l1.toArray).toList == (l2.toArray).toList) = decide (l1 = l2)
  refine Bool.eq_iff_iff.2 ?_
  simp
noncomputable def inl_sameB0 : Ct Try.prog 0 := Ct.inl tbSb mixed [] 29 Try.f29 Try.func29 (bodyOf Try.f29) (by kernel_rfl)
def ownU (b : Nat) (l : Bl) : RdL UInt8 := ⟨b, U, [], l, []⟩
theorem ownU_at {H : Tr AObj} {b : Nat} {l : Bl} (h : H.get b = some (.cells (l.map byV) 5)) : (ownU b l).at layU H := by
  refine ⟨?_, rfl, rfl⟩
  show (H.get b).bind _ = some ([] ++ l.flatMap layU.g ++ [])
  rw [h, List.append_nil, List.nil_append, layU_flat]; rfl
def sameAt (H : Tr AObj) (args : List Value) : Prop := ∃ (l : Bl) (b1 b2 : Nat), args = [.slice (some ⟨b1, 0, none⟩) l.length U, .slice (some ⟨b2, 0, none⟩) l.length U] ∧ H.get b1 = some (.cells (l.map byV) 5) ∧ H.get b2 = some (.cells (l.map byV) 5)
theorem sameAt_ok {H : Tr AObj} {args : List Value} (h : sameAt H args) (n : Nat) : TOK Try.prog 0 (.call 29 args) ⟨.e, H, n, [], []⟩ (.ret (.bool true) H n []) := by
  obtain ⟨l, b1, b2, rfl, h1, h2⟩ := h
  obtain ⟨r, hF, H', m, wr, rfl, hw⟩ := sameB_fn U U [] [] [] [] l l
  rw [decide_eq_true rfl] at hF
  have hz : (Try.prog.info? 5).map (·.size) = some layU.k := by kernel_rfl
  obtain ⟨o1, e1, r1⟩ := (ownU_at h1).1.ro (P := Try.prog) (σ := caR [b1, b2]) (RdL.plain rfl rfl) hz
  obtain ⟨o2, e2, r2⟩ := (ownU_at h2).1.ro (P := Try.prog) (σ := caR [b1, b2]) (RdL.plain rfl rfl) hz
  exact callOK_reads [b1, b2] hF hw (dup_win (fun x hx => by simp only [List.mem_cons, List.not_mem_nil, or_false] at hx; rcases hx with rfl | rfl <;> exact trivial)) (.cons _ _ _ _ (.sl _ _ _ _ _ rfl) (.cons _ _ _ _ (.sl _ _ _ _ _ rfl) .nil)) (callB_of ⟨⟨b1, _, rfl, e1, r1⟩, ⟨b2, _, rfl, e2, r2⟩, trivial⟩) rfl
open Classical in
noncomputable def ct_sameT : Ct Try.prog 0 where
  f := 29
  res args H n := if sameAt H args then .ret (.bool true) H n [] else .bad "" []
  ok args H n := by
    split
    · exact sameAt_ok ‹_› n
    · trivial
  ck args H n K := sameAt H args ∧ K (.ret (.bool true) H n [])
  imp args H n K h := by rw [if_pos h.1]; exact h.2
noncomputable def ct_sameE : Ct Try.prog 0 := Ct.alt nil0 inl_sameB0 ct_sameT rfl
end Go.Proofs.Ytjdecbfjpkpepaa
