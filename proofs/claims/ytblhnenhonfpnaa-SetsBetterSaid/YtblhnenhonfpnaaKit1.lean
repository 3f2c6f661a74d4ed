/- DERIVED. Contracts of the comparisons of lists. -/
import Derived.Test.YtblhnenhonfpnaaProg
import Derived.Test.YtblhnenhonfpnaaBase
namespace Go.Proofs.Ytblhnenhonfpnaa
open Go.RowKit

theorem rec_neq (x y : Rc) (w : World) : (binOp .neq 39 (.agg #[str x.name, .int .i64 x.type, .int .i64 x.cls, .int .i64 x.ttl, str x.data]) (.agg #[str y.name, .int .i64 y.type, .int .i64 y.cls, .int .i64 y.ttl, str y.data])).run Try.prog w = .ok (.bool (decide (x ≠ y))) w := by
  have e : (decide (x ≠ y)) = !(x.name == y.name && (x.type == y.type && (x.cls == y.cls && (x.ttl == y.ttl && x.data == y.data)))) := by
    by_cases h : x = y
    · subst h; simp
    · have : ¬ (x.name = y.name ∧ x.type = y.type ∧ x.cls = y.cls ∧ x.ttl = y.ttl ∧ x.data = y.data) := by
        rintro ⟨h1, h2, h3, h4, h5⟩; apply h; cases x; cases y; simp_all
      simp only [ne_eq, h, not_false_eq_true, decide_true, Bool.true_eq, Bool.not_eq_true', Bool.and_eq_false_iff, beq_eq_false_iff_ne]
      by_cases h1 : x.name = y.name <;> by_cases h2 : x.type = y.type <;> by_cases h3 : x.cls = y.cls <;> by_cases h4 : x.ttl = y.ttl <;> simp_all
  rw [e]
  simp [go_sem]
  by_cases h1 : x.name = y.name <;> by_cases h2 : x.type = y.type <;> by_cases h3 : x.cls = y.cls <;> by_cases h4 : x.ttl = y.ttl <;> by_cases h5 : x.data = y.data <;> simp_all

theorem take_eq_succ {α : Type} {a b : List α} {k : Nat} {x y : α} (hx : a[k]? = some x) (hy : b[k]? = some y) (h : a.take k = b.take k) (he : x = y) : a.take (k + 1) = b.take (k + 1) := by
  rw [List.take_add_one, List.take_add_one, hx, hy, h, he]

theorem text_neq (x y : Bs) (w : World) : (binOp .neq 9 (str x) (str y)).run Try.prog w = .ok (.bool (decide (x ≠ y))) w := by
  have e : (decide (x ≠ y)) = !(x == y) := by by_cases h : x = y <;> simp [h]
  rw [e]
  simp [go_sem]

set_option maxHeartbeats 400000 in
theorem sameRecs (va vb : Value) (A B : List Rc) (w : World) (ha : ReadsRecs w va A) (hb : ReadsRecs w vb B) (hA : A.length ≤ maxLen) (hB : B.length ≤ maxLen) :
    Calls Try.prog 15 #[va, vb] w fun e w' => e = .returned (.bool (decide (A = B))) ∧ ∃ k, w' = w.drewN k := by
  obtain ⟨aa, ca, eva⟩ : ∃ a c, va = .slice a A.length c := by rcases ha.at with ⟨rfl, rfl⟩ | ⟨b, o, cap, rfl, _⟩ <;> exact ⟨_, _, rfl⟩
  obtain ⟨ab, cb, evb⟩ : ∃ a c, vb = .slice a B.length c := by rcases hb.at with ⟨rfl, rfl⟩ | ⟨b, o, cap, rfl, _⟩ <;> exact ⟨_, _, rfl⟩
  subst eva evb
  unfold maxLen at hA hB
  go_enter Try.func15, Try.ntmps15
  by_cases hl : A.length = B.length
  · have hl' : ((A.length : Int) != (B.length : Int)) = false := by simp [hl]
    have HL := Lib.hid hl
    clear hl
    go_wp2
    go_loopw [5] (fun i wr => ∃ k : Nat, k ≤ A.length ∧ i = .int .i64 k ∧ A.take k = B.take k ∧ ∃ q, wr = w.drewN q) (fun i _ => A.length - (intOf i).toNat)
    case atStart => exact ⟨0, Nat.zero_le _, rfl, rfl, 0, rfl⟩
    case round =>
      obtain ⟨k, hk, rfl, ht, q, rfl⟩ := hrel
      have HT := Lib.hid ht
      clear ht
      by_cases hlt : k < A.length
      · have hkb : k < B.length := by rw [← HL.out]; exact hlt
        have hx : A[k]? = some A[k] := List.getElem?_eq_getElem hlt
        have hy : B[k]? = some B[k] := List.getElem?_eq_getElem hkb
        generalize A[k] = x at hx
        generalize B[k] = y at hy
        rcases ha.at with ⟨h, rfl⟩ | ⟨ba, oa, cap, h, _, _, ga⟩
        · simp at hlt
        rcases hb.at with ⟨h', rfl⟩ | ⟨bb, ob, cap', h', _, _, gb⟩
        · simp at hkb
        simp only [Value.slice.injEq] at h h'
        obtain ⟨rfl, -, -⟩ := h
        obtain ⟨rfl, -, -⟩ := h'
        obtain ⟨_, -, rfl, ga⟩ := ga k x hx
        obtain ⟨_, -, rfl, gb⟩ := gb k y hy
        have a0 := ga 0 _ rfl
        have b0 := gb 0 _ rfl
        have a1 := ga 1 _ rfl
        have b1 := gb 1 _ rfl
        have a2 := ga 2 _ rfl
        have b2 := gb 2 _ rfl
        have a3 := ga 3 _ rfl
        have b3 := gb 3 _ rfl
        have a4 := ga 4 _ rfl
        have b4 := gb 4 _ rfl
        simp only [Nat.add_zero, Nat.mul_one] at a0 b0
        clear ga gb ha hb
        have HX := Lib.hid hx
        have HY := Lib.hid hy
        clear hx hy
        have hne := rec_neq x y
        by_cases hxy : x = y
        · have hd : decide (x ≠ y) = false := by simp [hxy]
          have hq : (x == y) = true := by simp [hxy]
          have HE := Lib.hid hxy
          clear hxy
          go_wp2
          go_quiet (fail)
          go_wp2
          go_roundw
          case rel => exact ⟨k + 1, by omega, by go_num, take_eq_succ HX.out HY.out HT.out HE.out, q + nq, by simp⟩
          case measure => simp [intOf]; omega
        · have hd : decide (x ≠ y) = true := by simp [hxy]
          have hq : (x == y) = false := by simp [hxy]
          have hab : decide (A = B) = false := by
            simp only [decide_eq_false_iff_not]; intro h; subst h
            have := HX.out.symm.trans HY.out; simp at this; exact hxy this
          have HE := Lib.hid hab
          clear hxy hab
          go_wp2
          go_quiet (fail)
          go_wp2
          go_ret
          exact ⟨by rw [HE.out]; rfl, q + nq, by simp⟩
      · have hab : decide (A = B) = true := by
          simp only [decide_eq_true_eq]
          have h1 := HT.out
          rwa [List.take_of_length_le (by omega), List.take_of_length_le (by rw [← HL.out]; omega)] at h1
        have HE := Lib.hid hab
        clear hab
        go_wp2
        go_ret
        exact ⟨by rw [HE.out]; rfl, q, by simp⟩
  · have hl' : ((A.length : Int) != (B.length : Int)) = true := by simp; omega
    have hd : decide (A = B) = false := by simp only [decide_eq_false_iff_not]; intro h; exact hl (by rw [h])
    have HD := Lib.hid hd
    clear hl hd
    go_wp2
    go_ret
    exact ⟨by rw [HD.out]; rfl, 0, rfl⟩

set_option maxHeartbeats 400000 in
theorem sameTexts (va vb : Value) (A B : List Bs) (w : World) (ha : ReadsTexts w va A) (hb : ReadsTexts w vb B) (hA : A.length ≤ maxLen) (hB : B.length ≤ maxLen) :
    Calls Try.prog 36 #[va, vb] w fun e w' => e = .returned (.bool (decide (A = B))) ∧ ∃ k, w' = w.drewN k := by
  obtain ⟨aa, ca, eva⟩ : ∃ a c, va = .slice a A.length c := by rcases ha.at with ⟨rfl, rfl⟩ | ⟨b, o, cap, rfl, _⟩ <;> exact ⟨_, _, rfl⟩
  obtain ⟨ab, cb, evb⟩ : ∃ a c, vb = .slice a B.length c := by rcases hb.at with ⟨rfl, rfl⟩ | ⟨b, o, cap, rfl, _⟩ <;> exact ⟨_, _, rfl⟩
  subst eva evb
  unfold maxLen at hA hB
  go_enter Try.func36, Try.ntmps36
  by_cases hl : A.length = B.length
  · have hl' : ((A.length : Int) != (B.length : Int)) = false := by simp [hl]
    have HL := Lib.hid hl
    clear hl
    go_wp2
    go_loopw [5] (fun i wr => ∃ k : Nat, k ≤ A.length ∧ i = .int .i64 k ∧ A.take k = B.take k ∧ ∃ q, wr = w.drewN q) (fun i _ => A.length - (intOf i).toNat)
    case atStart => exact ⟨0, Nat.zero_le _, rfl, rfl, 0, rfl⟩
    case round =>
      obtain ⟨k, hk, rfl, ht, q, rfl⟩ := hrel
      have HT := Lib.hid ht
      clear ht
      by_cases hlt : k < A.length
      · have hkb : k < B.length := by rw [← HL.out]; exact hlt
        have hx : A[k]? = some A[k] := List.getElem?_eq_getElem hlt
        have hy : B[k]? = some B[k] := List.getElem?_eq_getElem hkb
        generalize A[k] = x at hx
        generalize B[k] = y at hy
        rcases ha.at with ⟨h, rfl⟩ | ⟨ba, oa, cap, h, _, _, ga⟩
        · simp at hlt
        rcases hb.at with ⟨h', rfl⟩ | ⟨bb, ob, cap', h', _, _, gb⟩
        · simp at hkb
        simp only [Value.slice.injEq] at h h'
        obtain ⟨rfl, -, -⟩ := h
        obtain ⟨rfl, -, -⟩ := h'
        obtain ⟨_, -, rfl, ga⟩ := ga k x hx
        obtain ⟨_, -, rfl, gb⟩ := gb k y hy
        have a0 := ga 0 _ rfl
        have b0 := gb 0 _ rfl
        simp only [Nat.add_zero, Nat.mul_one] at a0 b0
        clear ga gb ha hb
        have HX := Lib.hid hx
        have HY := Lib.hid hy
        clear hx hy
        have hne := text_neq x y
        by_cases hxy : x = y
        · have hd : decide (x ≠ y) = false := by simp [hxy]
          have hq : (x == y) = true := by simp [hxy]
          have HE := Lib.hid hxy
          clear hxy
          go_wp2
          go_quiet (fail)
          go_wp2
          go_roundw
          case rel => exact ⟨k + 1, by omega, by go_num, take_eq_succ HX.out HY.out HT.out HE.out, q + nq, by simp⟩
          case measure => simp [intOf]; omega
        · have hd : decide (x ≠ y) = true := by simp [hxy]
          have hq : (x == y) = false := by simp [hxy]
          have hab : decide (A = B) = false := by
            simp only [decide_eq_false_iff_not]; intro h; subst h
            have := HX.out.symm.trans HY.out; simp at this; exact hxy this
          have HE := Lib.hid hab
          clear hxy hab
          go_wp2
          go_quiet (fail)
          go_wp2
          go_ret
          exact ⟨by rw [HE.out]; rfl, q + nq, by simp⟩
      · have hab : decide (A = B) = true := by
          simp only [decide_eq_true_eq]
          have h1 := HT.out
          rwa [List.take_of_length_le (by omega), List.take_of_length_le (by rw [← HL.out]; omega)] at h1
        have HE := Lib.hid hab
        clear hab
        go_wp2
        go_ret
        exact ⟨by rw [HE.out]; rfl, q, by simp⟩
  · have hl' : ((A.length : Int) != (B.length : Int)) = true := by simp; omega
    have hd : decide (A = B) = false := by simp only [decide_eq_false_iff_not]; intro h; exact hl (by rw [h])
    have HD := Lib.hid hd
    clear hl hd
    go_wp2
    go_ret
    exact ⟨by rw [HD.out]; rfl, 0, rfl⟩

end Go.Proofs.Ytblhnenhonfpnaa
