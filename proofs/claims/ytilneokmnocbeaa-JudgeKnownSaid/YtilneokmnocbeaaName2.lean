/- DERIVED. name.Check, Lower, Same. -/
import Derived.Test.YtilneokmnocbeaaName
namespace Go.Proofs.Ytilneokmnocbeaa
open Go.RowKit

theorem nameCheck_any (s : Bs) (w : World) (hs : s.length ≤ 1000000000) :
    Calls Try.prog 39 #[str s] w fun e w' => e = .returned (.int .i64 (labels s).2) ∧ Below w.heap.size w w' := by
  go_enter Try.func39, Try.ntmps39
  go_wp2_with (go_at_call 62; refine (labels_any s _ hs).mono ?_; rintro e w' ⟨v, rfl, hb, -⟩)
  go_ret
  exact ⟨rfl, hb⟩

/-- A byte in lower form. -/
def lo (c : UInt8) : UInt8 := if 65 ≤ c.toNat ∧ c.toNat ≤ 90 then c + 32 else c
def lower (l : Bs) : Bs := l.map lo
/-- The first k bytes in lower form, the others as they are. -/
def lowTo (l : Bs) (k : Nat) : Bs := lower (l.take k) ++ l.drop k
theorem lowTo_length (l : Bs) (k : Nat) : (lowTo l k).length = l.length := by simp [lowTo, lower]; omega
theorem lowTo_zero (l : Bs) : lowTo l 0 = l := by simp [lowTo, lower]
theorem lowTo_all (l : Bs) (k : Nat) (h : l.length ≤ k) : lowTo l k = lower l := by simp [lowTo, List.take_of_length_le h, List.drop_eq_nil_of_le h]
theorem lowTo_at (l : Bs) (k : Nat) (h : k < l.length) : (lowTo l k)[k]? = l[k]? := by
  unfold lowTo lower
  have e : ((l.take k).map lo).length = k := by simp; omega
  rw [List.getElem?_append_right (by omega), e]; simp
theorem lowTo_bt (l : Bs) (k : Nat) (h : k < l.length) : bt (lowTo l k) k = bt l k := by
  unfold bt; rw [List.getD_eq_getElem?_getD, List.getD_eq_getElem?_getD, lowTo_at l k h]
theorem lowTo_succ (l : Bs) (k : Nat) (h : k < l.length) : lowTo l (k + 1) = (lowTo l k).set k (lo l[k]) := by
  unfold lowTo lower
  have e : ((l.take k).map lo).length = k := by simp; omega
  rw [List.take_succ_eq_append_getElem h, List.map_append, List.set_append_right _ _ (by omega), e, Nat.sub_self, List.append_assoc]
  congr 1
  rw [List.drop_eq_getElem_cons h]; rfl
theorem lowTo_same (l : Bs) (k : Nat) (h : k < l.length) (hn : ¬ (65 ≤ bt l k ∧ bt l k ≤ 90)) : lowTo l (k + 1) = lowTo l k := by
  rw [lowTo_succ l k h]
  have hx : (lowTo l k)[k]? = some l[k] := by rw [lowTo_at l k h]; exact List.getElem?_eq_getElem h
  have : lo l[k] = l[k] := by unfold lo; rw [if_neg (by rw [← bt_get l k h]; exact hn)]
  rw [this]
  apply List.ext_getElem?
  intro j
  by_cases e : k = j
  · subst e
    rw [List.getElem?_set_self (by rw [lowTo_length]; exact h), hx]
  · rw [List.getElem?_set_ne e]
theorem lo_nat (l : Bs) (k : Nat) (h : k < l.length) (h1 : 65 ≤ bt l k) (h2 : bt l k ≤ 90) : ((lo l[k]).toNat : Int) = (bt l k : Int) + 32 := by
  rw [bt_get l k h] at *
  unfold lo; rw [if_pos ⟨h1, h2⟩, UInt8.toNat_add]
  simp; omega

set_option maxHeartbeats 400000 in
theorem lower_any (s : Bs) (w : World) (hs : s.length ≤ 1000000000) :
    Calls Try.prog 61 #[str s] w fun e w' => e = .returned (str (lower s)) ∧ Below w.heap.size w w' := by
  obtain ⟨cap, w1, hcv, hblk, hb1, hz1, hcap⟩ := conv_bytes (P := Try.prog) w 9 60 5 s Try.underlying9 Try.underlying60 Try.underlying5
  go_enter Try.func61, Try.ntmps61
  go_wp2
  have HC := Lib.hid hcv
  clear hcv
  go_loopw [10] (fun i wr => ∃ k : Nat, k ≤ s.length ∧ i = .int .i64 k ∧ ByteBlk wr w.heap.size (lowTo s k) ∧ Below w.heap.size w wr ∧ w.heap.size + 1 ≤ wr.heap.size) (fun i _ => s.length - (intOf i).toNat)
  case atStart => exact ⟨0, Nat.zero_le _, rfl, by rw [lowTo_zero]; exact hblk, hb1, by omega⟩
  case round =>
    obtain ⟨k, hk, rfl, hB, hbw, hsz⟩ := hrel
    by_cases hlt : k < s.length
    · obtain ⟨c1, f1⟩ := hB k (by rw [lowTo_length]; exact hlt)
      rw [lowTo_bt s k hlt] at c1
      have hbl := bt_lt s k
      clear hz1 hb1 hblk
      by_cases h1 : 65 ≤ bt s k ∧ bt s k ≤ 90
      · obtain ⟨h1, h2⟩ := h1
        have h1' : decide ((65 : Int) ≤ (bt s k : Int)) = true := by simp; omega
        have h2' : decide ((bt s k : Int) ≤ (90 : Int)) = true := by simp; omega
        have hlo := lo_nat s k hlt h1 h2
        have hsucc := lowTo_succ s k hlt
        have HL := Lib.hid hlo
        have HS := Lib.hid hsucc
        clear hlo hsucc
        go_wp2
        go_roundw
        case rel =>
          refine ⟨k + 1, by omega, by go_num, ?_, hbw.setCell (p := ⟨w.heap.size, k, none⟩) (Nat.le_refl _) _, by simp; omega⟩
          have := ByteBlk.set hB k (lo s[k])
          rw [HS.out]
          rw [HL.out] at this
          have e : (bt s k : Int) + 97 - 65 = (bt s k : Int) + 32 := by omega
          rw [e]; exact this
        case measure => simp [intOf]; omega
      · have hsame := lowTo_same s k hlt h1
        have HS := Lib.hid hsame
        have hcase : decide ((65 : Int) ≤ (bt s k : Int)) = false ∨ (decide ((65 : Int) ≤ (bt s k : Int)) = true ∧ decide ((bt s k : Int) ≤ (90 : Int)) = false) := by
          simp only [decide_eq_false_iff_not, decide_eq_true_eq]; omega
        clear h1 hsame
        rcases hcase with h1' | ⟨h1', h2'⟩
        all_goals
          go_wp2
          go_roundw
          case rel => exact ⟨k + 1, by omega, by go_num, by rw [HS.out]; exact hB, hbw, by omega⟩
          case measure => simp [intOf]; omega
    · have hall : lowTo s k = lower s := lowTo_all s k (by omega)
      rw [hall] at hB
      have hcs := hB.string 60 9 5 cap Try.underlying60 Try.underlying5 Try.underlying9
      have hll : (lower s).length = s.length := by simp [lower]
      rw [hll] at hcs
      clear hall hll hB hblk hb1 hz1 hsz
      go_wp2
      go_ret
      exact ⟨rfl, hbw⟩

theorem nameSame_any (a b : Bs) (w : World) (ha : a.length ≤ 1000000000) (hb : b.length ≤ 1000000000) :
    Calls Try.prog 21 #[str a, str b] w fun e w' => e = .returned (.bool (decide ((labels a).2 = 0 ∧ (labels b).2 = 0 ∧ lower a = lower b))) ∧ Below w.heap.size w w' := by
  have hB := Below.refl w.heap.size w
  go_enter Try.func21, Try.ntmps21
  by_cases h1 : (labels a).2 = 0
  · have h1' : ((labels a).2 == 0) = true := by simp [h1]
    by_cases h2 : (labels b).2 = 0
    · have h2' : ((labels b).2 == 0) = true := by simp [h2]
      have hr : decide ((labels a).2 = 0 ∧ (labels b).2 = 0 ∧ lower a = lower b) = (lower a == lower b) := by rw [Bool.eq_iff_iff]; simp [h1, h2]
      have HR := Lib.hid hr
      clear h1 h2 hr
      go_wp2_with (first
        | (go_at_call 39; refine (nameCheck_any _ _ (by assumption)).mono ?_; rintro e w' ⟨rfl, hb'⟩; replace hB := belowT hB hb'; clear hb')
        | (go_at_call 61; refine (lower_any _ _ (by assumption)).mono ?_; rintro e w' ⟨rfl, hb'⟩; replace hB := belowT hB hb'; clear hb'))
      go_ret
      exact ⟨by rw [HR.out]; rfl, hB⟩
    · have h2' : ((labels b).2 == 0) = false := by simp [h2]
      have hr : decide ((labels a).2 = 0 ∧ (labels b).2 = 0 ∧ lower a = lower b) = false := by simp [h2]
      have HR := Lib.hid hr
      clear h1 h2 hr
      go_wp2_with (go_at_call 39; refine (nameCheck_any _ _ (by assumption)).mono ?_; rintro e w' ⟨rfl, hb'⟩; replace hB := belowT hB hb'; clear hb')
      go_ret
      exact ⟨by rw [HR.out]; rfl, hB⟩
  · have h1' : ((labels a).2 == 0) = false := by simp [h1]
    have hr : decide ((labels a).2 = 0 ∧ (labels b).2 = 0 ∧ lower a = lower b) = false := by simp [h1]
    have HR := Lib.hid hr
    clear h1 hr
    go_wp2_with (go_at_call 39; refine (nameCheck_any _ _ (by assumption)).mono ?_; rintro e w' ⟨rfl, hb'⟩; replace hB := belowT hB hb'; clear hb')
    go_ret
    exact ⟨by rw [HR.out]; rfl, hB⟩
end Go.Proofs.Ytilneokmnocbeaa
