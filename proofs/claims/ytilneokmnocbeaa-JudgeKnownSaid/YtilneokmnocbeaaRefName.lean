/- DERIVED. ref04.Labels. -/
import Derived.Test.YtilneokmnocbeaaName2
namespace Go.Proofs.Ytilneokmnocbeaa
open Go.RowKit

/-- The loop of ref04.Labels: none: ErrBytes; else the labels, and where the last 0 stands. -/
def refLab (s : Bs) : Nat → Nat → List Bs → Option (List Bs × Nat)
  | 0, _, _ => none
  | f + 1, at_, acc =>
    if s.length ≤ at_ then none
    else if bt s at_ = 0 then some (acc, at_)
    else if 63 < bt s at_ ∨ s.length < at_ + 1 + bt s at_ then none
    else refLab s f (at_ + 1 + bt s at_) (acc ++ [(s.drop (at_ + 1)).take (bt s at_)])

def refLabels (s : Bs) : List Bs × Int :=
  match refLab s (s.length + 1) 0 [] with
  | none => ([], 4)
  | some (l, e) => if e + 1 ≠ s.length then ([], 4) else if 255 < s.length then ([], 3) else (l, 0)

theorem bt_drop (s : Bs) (k j : Nat) : bt (s.drop k) j = bt s (k + j) := by simp [bt, List.getD_eq_getElem?_getD, List.getElem?_drop]
theorem one_zero (m : Bs) : m = [0] ↔ m.length = 1 ∧ bt m 0 = 0 := by
  match m with
  | [] => simp
  | [c] =>
    simp only [List.cons.injEq, and_true, List.length_cons, List.length_nil, Nat.zero_add, true_and, bt, List.getD_cons_zero]
    exact ⟨fun h => by rw [h]; rfl, fun h => UInt8.toNat_inj.1 (by rw [h]; rfl)⟩
  | a :: b :: c => simp

theorem refLab_eq (s : Bs) : ∀ (f at_ : Nat) (acc : List Bs), at_ ≤ s.length → s.length < at_ + f →
    (none ∉ nameSeq f (s.drop at_) → refLab s f at_ acc = some (acc ++ (nameSeq f (s.drop at_)).filterMap id, s.length - 1) ∧ 0 < s.length) ∧
    (none ∈ nameSeq f (s.drop at_) → refLab s f at_ acc = none ∨ ∃ l e, refLab s f at_ acc = some (l, e) ∧ e + 1 ≠ s.length)
  | 0, at_, acc, h1, h2 => by omega
  | f + 1, at_, acc, h1, h2 => by
    have hm : (s.drop at_).length = s.length - at_ := by simp
    have hb : bt (s.drop at_) 0 = bt s at_ := by rw [bt_drop, Nat.add_zero]
    rw [nameSeq, refLab]
    by_cases hz : s.drop at_ = [0]
    · have hz' := (one_zero _).1 hz
      rw [if_pos hz, if_neg (by omega), if_pos (by omega)]
      refine ⟨fun _ => ⟨?_, by omega⟩, by simp⟩
      simp; omega
    · have hz' : ¬ ((s.drop at_).length = 1 ∧ bt (s.drop at_) 0 = 0) := fun h => hz ((one_zero _).2 h)
      rw [if_neg hz]
      by_cases hbad : (s.drop at_).length = 0 ∨ bt (s.drop at_) 0 = 0 ∨ 63 < bt (s.drop at_) 0 ∨ (s.drop at_).length ≤ bt (s.drop at_) 0
      · rw [if_pos hbad]
        refine ⟨by simp, fun _ => ?_⟩
        rw [hm, hb] at hbad hz'
        by_cases c1 : s.length ≤ at_
        · left; rw [if_pos c1]
        · rw [if_neg c1]
          by_cases c2 : bt s at_ = 0
          · right; rw [if_pos c2]; exact ⟨acc, at_, rfl, by omega⟩
          · left; rw [if_neg c2, if_pos (by omega)]
      · rw [if_neg hbad]
        rw [hm, hb] at hbad
        rw [if_neg (by omega), if_neg (by omega), if_neg (by omega)]
        have e1 : (s.drop at_).drop (1 + bt (s.drop at_) 0) = s.drop (at_ + 1 + bt s at_) := by rw [List.drop_drop, hb, Nat.add_assoc]
        have e2 : (s.drop at_).tail.take (bt (s.drop at_) 0) = (s.drop (at_ + 1)).take (bt s at_) := by rw [hb, List.tail_drop]
        rw [e1, e2]
        obtain ⟨i1, i2⟩ := refLab_eq s f (at_ + 1 + bt s at_) (acc ++ [(s.drop (at_ + 1)).take (bt s at_)]) (by omega) (by omega)
        refine ⟨fun h => ?_, fun h => i2 (by simpa using h)⟩
        obtain ⟨i3, i4⟩ := i1 (by simpa using h)
        refine ⟨?_, i4⟩
        rw [i3]; simp

theorem labels_eq (s : Bs) : refLabels s = labels s := by
  obtain ⟨i1, i2⟩ := refLab_eq s (s.length + 1) 0 [] (by omega) (by omega)
  simp only [List.drop_zero] at i1 i2
  unfold refLabels labels
  by_cases h : none ∈ nameSeq (s.length + 1) s
  · rw [if_pos h]
    rcases i2 h with h' | ⟨l, e, h', he⟩
    · rw [h']
    · rw [h']; simp [he]
  · obtain ⟨h', h0⟩ := i1 h
    rw [if_neg h, h']
    simp only [List.nil_append]
    rw [if_neg (by omega)]

attribute [local go_sem] wrap_bt ByteArray.extract_mk

set_option maxHeartbeats 400000 in
theorem refLabels_any (s : Bs) (w : World) (hs : s.length ≤ 1000000000) :
    Calls Try.prog 68 #[str s] w fun e w' => ∃ v, e = .returned (.tuple #[v, .int .i64 (refLabels s).2]) ∧
      Below w.heap.size w w' ∧ w'.ownsRow w.heap.size 9 1 v (refLabels s).1.length ((refLabels s).1.map str) := by
  go_enter Try.func68, Try.ntmps68
  go_wp2
  obtain ⟨W, hWw⟩ : ∃ W, W = w := ⟨_, rfl⟩
  subst hWw
  go_loopg [4, 5] (s.length + 1) (fun (g : Nat) (o i : Value) (wr : World) => ∃ (k : Nat) (acc : List Bs), k ≤ s.length ∧ s.length < k + g ∧ acc.length ≤ k ∧ i = .int .i64 k ∧ Hid (refLab s g k acc = refLab s (s.length + 1) 0 []) ∧
      Below W.heap.size W wr ∧ wr.ownsRow W.heap.size 9 1 o acc.length (acc.map str) ∧ W.heap.size ≤ wr.heap.size)
  case atStart => exact ⟨0, [], Nat.zero_le _, by omega, Nat.zero_le _, rfl, rfl, Below.refl _ _, World.ownsRow_nil _ _ _ _, Nat.le_refl _⟩
  case round =>
    obtain ⟨k, acc, hk, hg, hac, rfl, HR, hB, hown, hsz⟩ := hrel
    by_cases hlt : k < s.length
    · have hix := fun (w : World) => idx_mk (w := w) 9 s .i64 k Try.underlying9 (by omega) (by omega)
      have hb := bt_lt s k
      go_wp2_with (at_builtin; refine halt ?_)
      all_goals
        obtain ⟨g, rfl⟩ : ∃ g', gk = g' + 1 := ⟨gk - 1, by omega⟩
      · have h0 : bt s k = 0 := by have := ‹((bt s k : Int) == 0) = true›; simpa using this
        have h1 : k + 1 ≠ s.length := by have := ‹((k : Int) != (s.length : Int) - 1) = true›; simp at this; omega
        have hR : refLabels s = ([], 4) := by unfold refLabels; rw [← HR.out, refLab, if_neg (by omega), if_pos h0]; simp [h1]
        go_ret2
        exact ⟨_, by rw [hR]; rfl, hB, by rw [hR]; exact World.ownsRow_nil _ _ _ _⟩
      · have h0 : bt s k = 0 := by have := ‹((bt s k : Int) == 0) = true›; simpa using this
        have h1 : k + 1 = s.length := by have := ‹((k : Int) != (s.length : Int) - 1) = false›; simp at this; omega
        have hR : refLabels s = ([], 3) := by unfold refLabels; rw [← HR.out, refLab, if_neg (by omega), if_pos h0]; simp [h1]; omega
        go_ret2
        exact ⟨_, by rw [hR]; rfl, hB, by rw [hR]; exact World.ownsRow_nil _ _ _ _⟩
      · have h0 : bt s k = 0 := by have := ‹((bt s k : Int) == 0) = true›; simpa using this
        have h1 : k + 1 = s.length := by have := ‹((k : Int) != (s.length : Int) - 1) = false›; simp at this; omega
        have hR : refLabels s = (acc, 0) := by unfold refLabels; rw [← HR.out, refLab, if_neg (by omega), if_pos h0]; simp [h1]; omega
        go_ret2
        exact ⟨_, by rw [hR]; rfl, hB, by rw [hR]; exact hown⟩
      · have h0 : bt s k ≠ 0 := by have := ‹((bt s k : Int) == 0) = false›; simpa using this
        have hR : refLabels s = ([], 4) := by unfold refLabels; rw [← HR.out, refLab, if_neg (by omega), if_neg h0, if_pos (by omega)]
        go_ret2
        exact ⟨_, by rw [hR]; rfl, hB, by rw [hR]; exact World.ownsRow_nil _ _ _ _⟩
      · have h0 : bt s k ≠ 0 := by have := ‹((bt s k : Int) == 0) = false›; simpa using this
        have hR : refLab s g (k + 1 + bt s k) (acc ++ [(s.drop (k + 1)).take (bt s k)]) = refLab s (s.length + 1) 0 [] := by rw [← HR.out, refLab, if_neg (by omega), if_neg h0, if_neg (by omega)]
        refine unhalt ?_
        refine wpList_append1 rt_texts _ _ rfl rfl hown hB _ rfl (by simp) rfl rfl rfl ?_ hsz ?_
        · unfold room; omega
        · intro g1 cap1 w1 _ hown1 hB1 hsz1 _ _
          go_wp2
          go_roundg g
          case rel =>
            refine ⟨k + 1 + bt s k, acc ++ [(s.drop (k + 1)).take (bt s k)], by omega, by omega, by simp; omega, by go_num, hR, hB1, ?_, Nat.le_trans hsz hsz1⟩
            simpa using hown1
          case measure => omega
      · have h0 : bt s k ≠ 0 := by have := ‹((bt s k : Int) == 0) = false›; simpa using this
        have hR : refLabels s = ([], 4) := by unfold refLabels; rw [← HR.out, refLab, if_neg (by omega), if_neg h0, if_pos (by omega)]
        go_ret2
        exact ⟨_, by rw [hR]; rfl, hB, by rw [hR]; exact World.ownsRow_nil _ _ _ _⟩
    · obtain ⟨g, rfl⟩ : ∃ g', gk = g' + 1 := ⟨gk - 1, by omega⟩
      have hR : refLabels s = ([], 4) := by unfold refLabels; rw [← HR.out, refLab, if_pos (by omega)]
      have HR2 := Lib.hid hR
      clear hR
      go_wp2
      go_ret2
      exact ⟨_, by rw [HR2.out]; rfl, hB, by rw [HR2.out]; exact World.ownsRow_nil _ _ _ _⟩

theorem refCheck_any (s : Bs) (w : World) (hs : s.length ≤ 1000000000) :
    Calls Try.prog 42 #[str s] w fun e w' => e = .returned (.int .i64 (labels s).2) ∧ Below w.heap.size w w' := by
  go_enter Try.func42, Try.ntmps42
  go_wp2_with (go_at_call 68; refine (refLabels_any s _ hs).mono ?_; rintro e w' ⟨v, rfl, hb, -⟩)
  go_ret
  exact ⟨by rw [← labels_eq]; rfl, hb⟩

set_option maxHeartbeats 400000 in
theorem refLower_any (s : Bs) (w : World) (hs : s.length ≤ 1000000000) :
    Calls Try.prog 70 #[str s] w fun e w' => e = .returned (str (lower s)) ∧ Below w.heap.size w w' := by
  obtain ⟨cap, w1, hcv, hblk, hb1, hz1, hcap⟩ := conv_bytes (P := Try.prog) w 9 60 5 s Try.underlying9 Try.underlying60 Try.underlying5
  go_enter Try.func70, Try.ntmps70
  go_wp2
  have HC := Lib.hid hcv
  clear hcv
  go_loopw [4] (fun i wr => ∃ k : Nat, k ≤ s.length ∧ i = .int .i64 k ∧ ByteBlk wr w.heap.size (lowTo s k) ∧ Below w.heap.size w wr ∧ w.heap.size + 1 ≤ wr.heap.size) (fun i _ => s.length - (intOf i).toNat)
  case atStart => exact ⟨0, Nat.zero_le _, rfl, by rw [lowTo_zero]; exact hblk, hb1, by omega⟩
  case round =>
    obtain ⟨k, hk, rfl, hB, hbw, hsz⟩ := hrel
    by_cases hlt : k < s.length
    · obtain ⟨c1, f1⟩ := hB k (by rw [lowTo_length]; exact hlt)
      rw [lowTo_bt s k hlt] at c1
      have hbl := bt_lt s k
      clear hz1 hb1 hblk
      by_cases h1 : 65 ≤ bt s k ∧ bt s k ≤ 90
      · obtain ⟨h1, h2⟩ := h1
        have h1' : decide ((65 : Int) ≤ (bt s k : Int)) = true := by simp; omega
        have h2' : decide ((bt s k : Int) ≤ (90 : Int)) = true := by simp; omega
        have hlo := lo_nat s k hlt h1 h2
        have hsucc := lowTo_succ s k hlt
        have HL := Lib.hid hlo
        have HS := Lib.hid hsucc
        clear hlo hsucc
        go_wp2
        go_roundw
        case rel =>
          refine ⟨k + 1, by omega, by go_num, ?_, hbw.setCell (p := ⟨w.heap.size, k, none⟩) (Nat.le_refl _) _, by simp; omega⟩
          have := ByteBlk.set hB k (lo s[k])
          rw [HS.out]
          rw [HL.out] at this
          exact this
        case measure => simp [intOf]; omega
      · have hsame := lowTo_same s k hlt h1
        have HS := Lib.hid hsame
        have hcase : decide ((65 : Int) ≤ (bt s k : Int)) = false ∨ (decide ((65 : Int) ≤ (bt s k : Int)) = true ∧ decide ((bt s k : Int) ≤ (90 : Int)) = false) := by
          simp only [decide_eq_false_iff_not, decide_eq_true_eq]; omega
        clear h1 hsame
        rcases hcase with h1' | ⟨h1', h2'⟩
        all_goals
          go_wp2
          go_roundw
          case rel => exact ⟨k + 1, by omega, by go_num, by rw [HS.out]; exact hB, hbw, by omega⟩
          case measure => simp [intOf]; omega
    · have hall : lowTo s k = lower s := lowTo_all s k (by omega)
      rw [hall] at hB
      have hcs := hB.string 60 9 5 cap Try.underlying60 Try.underlying5 Try.underlying9
      have hll : (lower s).length = s.length := by simp [lower]
      rw [hll] at hcs
      clear hall hll hB hblk hb1 hz1 hsz
      go_wp2
      go_ret
      exact ⟨rfl, hbw⟩

theorem refSame_any (a b : Bs) (w : World) (ha : a.length ≤ 1000000000) (hb : b.length ≤ 1000000000) :
    Calls Try.prog 45 #[str a, str b] w fun e w' => e = .returned (.bool (decide ((labels a).2 = 0 ∧ (labels b).2 = 0 ∧ lower a = lower b))) ∧ Below w.heap.size w w' := by
  have hB := Below.refl w.heap.size w
  go_enter Try.func45, Try.ntmps45
  by_cases h1 : (labels a).2 = 0
  · have h1' : ((labels a).2 == 0) = true := by simp [h1]
    by_cases h2 : (labels b).2 = 0
    · have h2' : ((labels b).2 == 0) = true := by simp [h2]
      have hr : decide ((labels a).2 = 0 ∧ (labels b).2 = 0 ∧ lower a = lower b) = (lower a == lower b) := by rw [Bool.eq_iff_iff]; simp [h1, h2]
      have HR := Lib.hid hr
      clear h1 h2 hr
      go_wp2_with (first
        | (go_at_call 42; refine (refCheck_any _ _ (by assumption)).mono ?_; rintro e w' ⟨rfl, hb'⟩; replace hB := belowT hB hb'; clear hb')
        | (go_at_call 70; refine (refLower_any _ _ (by assumption)).mono ?_; rintro e w' ⟨rfl, hb'⟩; replace hB := belowT hB hb'; clear hb'))
      go_ret
      exact ⟨by rw [HR.out]; rfl, hB⟩
    · have h2' : ((labels b).2 == 0) = false := by simp [h2]
      have hr : decide ((labels a).2 = 0 ∧ (labels b).2 = 0 ∧ lower a = lower b) = false := by simp [h2]
      have HR := Lib.hid hr
      clear h1 h2 hr
      go_wp2_with (go_at_call 42; refine (refCheck_any _ _ (by assumption)).mono ?_; rintro e w' ⟨rfl, hb'⟩; replace hB := belowT hB hb'; clear hb')
      go_ret
      exact ⟨by rw [HR.out]; rfl, hB⟩
  · have h1' : ((labels a).2 == 0) = false := by simp [h1]
    have hr : decide ((labels a).2 = 0 ∧ (labels b).2 = 0 ∧ lower a = lower b) = false := by simp [h1]
    have HR := Lib.hid hr
    clear h1 hr
    go_wp2_with (go_at_call 42; refine (refCheck_any _ _ (by assumption)).mono ?_; rintro e w' ⟨rfl, hb'⟩; replace hB := belowT hB hb'; clear hb')
    go_ret
    exact ⟨by rw [HR.out]; rfl, hB⟩
end Go.Proofs.Ytilneokmnocbeaa
