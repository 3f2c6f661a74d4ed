/- DERIVED. Sets: reading, comparing, the least TTL. -/
import Derived.Test.YtblhnenhonfpnaaHas
import Derived.Test.YtblhnenhonfpnaaRefName
import Derived.StillTailTactics
namespace Go.Proofs.Ytblhnenhonfpnaa
open Go.RowKit

/-- A set. -/
structure St where
  name : Bs
  type : Int
  cls : Int
  ttl : Int
  data : List Bs
  deriving DecidableEq
def StR (w : World) (s : St) (cs : List Value) : Prop := ∃ vd, cs = [str s.name, .int .i64 s.type, .int .i64 s.cls, .int .i64 s.ttl, vd] ∧ ReadsTexts w vd s.data
abbrev ReadsSets := ReadsL 5 StR

theorem readsTexts_below {w w' : World} {v : Value} {l : List Bs} (h : ReadsTexts w v l) (hb : Below w.heap.size w w') : ReadsTexts w' v l := h.below (fun _ _ h => h) hb
theorem readsRecs_below {w w' : World} {v : Value} {l : List Rc} (h : ReadsRecs w v l) (hb : Below w.heap.size w w') : ReadsRecs w' v l := h.below (fun _ _ h => h) hb
theorem readsSets_below {w w' : World} {v : Value} {l : List St} (h : ReadsSets w v l) (hb : Below w.heap.size w w') : ReadsSets w' v l :=
  h.below (fun _ _ ⟨vd, h1, h2⟩ => ⟨vd, h1, readsTexts_below h2 hb⟩) hb

theorem st_eq (x y : St) : decide (x = y) = (x.name == y.name && (x.type == y.type && (x.cls == y.cls && (x.ttl == y.ttl && decide (x.data = y.data))))) := by
  by_cases h : x = y
  · subst h; simp
  · have : ¬ (x.name = y.name ∧ x.type = y.type ∧ x.cls = y.cls ∧ x.ttl = y.ttl ∧ x.data = y.data) := by
      rintro ⟨h1, h2, h3, h4, h5⟩; apply h; cases x; cases y; simp_all
    rw [decide_eq_false h]
    by_cases h1 : x.name = y.name <;> by_cases h2 : x.type = y.type <;> by_cases h3 : x.cls = y.cls <;> by_cases h4 : x.ttl = y.ttl <;> simp_all

set_option maxHeartbeats 400000 in
theorem sameSet (x y : St) (vx vy : Value) (w : World) (hx : ReadsTexts w vx x.data) (hy : ReadsTexts w vy y.data) (nx : x.data.length ≤ maxLen) (ny : y.data.length ≤ maxLen) :
    Calls Try.prog 31 #[.agg #[str x.name, .int .i64 x.type, .int .i64 x.cls, .int .i64 x.ttl, vx], .agg #[str y.name, .int .i64 y.type, .int .i64 y.cls, .int .i64 y.ttl, vy]] w
      fun e w' => e = .returned (.bool (decide (x = y))) ∧ Below w.heap.size w w' := by
  have hst := st_eq x y
  have HS := Lib.hid hst
  clear hst
  have hB2 := ((Below.refl w.heap.size w).alloc (Nat.le_refl _) (.cells #[str x.name, .int .i64 x.type, .int .i64 x.cls, .int .i64 x.ttl, vx] 32)).alloc (by simp) (.cells #[str y.name, .int .i64 y.type, .int .i64 y.cls, .int .i64 y.ttl, vy] 32)
  have rx := readsTexts_below hx hB2
  have ry := readsTexts_below hy hB2
  go_enter Try.func31, Try.ntmps31
  have hc : ((x.name == y.name) = false) ∨ ((x.name == y.name) = true ∧ (x.type == y.type) = false) ∨ ((x.name == y.name) = true ∧ (x.type == y.type) = true ∧ (x.cls == y.cls) = false) ∨ ((x.name == y.name) = true ∧ (x.type == y.type) = true ∧ (x.cls == y.cls) = true ∧ (x.ttl == y.ttl) = false) ∨ ((x.name == y.name) = true ∧ (x.type == y.type) = true ∧ (x.cls == y.cls) = true ∧ (x.ttl == y.ttl) = true) := by
    cases h0 : (x.name == y.name) <;> cases h1 : (x.type == y.type) <;> cases h2 : (x.cls == y.cls) <;> cases h3 : (x.ttl == y.ttl) <;> simp
  rcases hc with c0 | ⟨c0, c1⟩ | ⟨c0, c1, c2⟩ | ⟨c0, c1, c2, c3⟩ | ⟨c0, c1, c2, c3⟩
  · go_wp2
    go_ret
    exact ⟨by rw [HS.out, c0]; rfl, hB2⟩
  · go_wp2
    go_ret
    exact ⟨by rw [HS.out, c0, c1]; rfl, hB2⟩
  · go_wp2
    go_ret
    exact ⟨by rw [HS.out, c0, c1, c2]; rfl, hB2⟩
  · go_wp2
    go_ret
    exact ⟨by rw [HS.out, c0, c1, c2, c3]; rfl, hB2⟩
  · go_wp2_with (go_at_call 36; refine (sameTexts _ _ _ _ _ rx ry nx ny).mono ?_; rintro e w' ⟨rfl, k, rfl⟩)
    go_ret
    exact ⟨by rw [HS.out, c0, c1, c2, c3]; rfl, hB2.trans ⟨rfl, rfl, rfl, Nat.le_refl _, fun _ _ => rfl⟩⟩

theorem take_ne {α : Type} {a b : List α} {k : Nat} {x y : α} (hx : a[k]? = some x) (hy : b[k]? = some y) (h : x ≠ y) : a ≠ b := by
  rintro rfl; rw [hx] at hy; exact h (by simpa using hy)

set_option maxRecDepth 20000 in
set_option maxHeartbeats 400000 in
theorem sameSets (va vb : Value) (A B : List St) (w : World) (ha : ReadsSets w va A) (hb : ReadsSets w vb B) (hA : A.length ≤ maxLen) (hB : B.length ≤ maxLen) (sA : ∀ s ∈ A, s.data.length ≤ maxLen) (sB : ∀ s ∈ B, s.data.length ≤ maxLen) :
    Calls Try.prog 14 #[va, vb] w fun e w' => e = .returned (.bool (decide (A = B))) ∧ Below w.heap.size w w' := by
  obtain ⟨aaA, caA, evaA⟩ : ∃ a c, va = .slice a A.length c := by rcases ha.at with ⟨rfl, rfl⟩ | ⟨b, o, cap, rfl, _⟩ <;> exact ⟨_, _, rfl⟩
  subst evaA
  obtain ⟨aaB, caB, evaB⟩ : ∃ a c, vb = .slice a B.length c := by rcases hb.at with ⟨rfl, rfl⟩ | ⟨b, o, cap, rfl, _⟩ <;> exact ⟨_, _, rfl⟩
  subst evaB
  unfold maxLen at hA hB
  go_enter Try.func14, Try.ntmps14
  by_cases hl : A.length = B.length
  · have hl' : ((A.length : Int) != (B.length : Int)) = false := by simp [hl]
    have HL := Lib.hid hl
    clear hl
    go_wp2
    go_loopw [5] (fun i wr => ∃ k : Nat, k ≤ A.length ∧ i = .int .i64 k ∧ A.take k = B.take k ∧ Below w.heap.size w wr) (fun i _ => A.length - (intOf i).toNat)
    case atStart => exact ⟨0, Nat.zero_le _, rfl, rfl, Below.refl _ _⟩
    case round =>
      obtain ⟨k, hk, rfl, ht, hbw⟩ := hrel
      have ha' := readsSets_below ha hbw
      have hb' := readsSets_below hb hbw
      have HT := Lib.hid ht
      clear ht ha hb
      by_cases hlt : k < A.length
      · have hkb : k < B.length := by rw [← HL.out]; exact hlt
        have nx := sA A[k] (List.getElem_mem hlt)
        have ny := sB B[k] (List.getElem_mem hkb)
        have hxa : A[k]? = some A[k] := List.getElem?_eq_getElem hlt
        generalize A[k] = x at hxa nx
        rcases ha'.at with ⟨h, rfl⟩ | ⟨ba, oa, capa, h, _, _, ga⟩
        · simp at hlt
        simp only [Value.slice.injEq] at h
        obtain ⟨rfl, -, -⟩ := h
        obtain ⟨csa, hcsa, ⟨vx, rfl, rx⟩, ga⟩ := ga k x hxa
        have a0 := ga 0 _ rfl
        have a1 := ga 1 _ rfl
        have a2 := ga 2 _ rfl
        have a3 := ga 3 _ rfl
        have a4 := ga 4 _ rfl
        simp only [Nat.add_zero, Nat.mul_one] at a0
        clear ga
        have hxb : B[k]? = some B[k] := List.getElem?_eq_getElem hkb
        generalize B[k] = y at hxb ny
        rcases hb'.at with ⟨h, rfl⟩ | ⟨bb, ob, capb, h, _, _, gb⟩
        · simp at hkb
        simp only [Value.slice.injEq] at h
        obtain ⟨rfl, -, -⟩ := h
        obtain ⟨csb, hcsb, ⟨vy, rfl, ry⟩, gb⟩ := gb k y hxb
        have b0 := gb 0 _ rfl
        have b1 := gb 1 _ rfl
        have b2 := gb 2 _ rfl
        have b3 := gb 3 _ rfl
        have b4 := gb 4 _ rfl
        simp only [Nat.add_zero, Nat.mul_one] at b0
        clear gb
        have HX := Lib.hid hxa
        have HY := Lib.hid hxb
        clear hxa hxb sA sB
        go_wp2
        go_still_tail 8, (by kernel_rfl)
        change wpList _ _ _ _ _ wr.drew
        have rx' : ReadsTexts wr.drew vx x.data := rx
        have ry' : ReadsTexts wr.drew vy y.data := ry
        have hbw' : Below w.heap.size w wr.drew := hbw.drew
        have hszw : w.heap.size ≤ wr.drew.heap.size := hbw.size
        generalize wr.drew = w2 at *
        clear rx ry hbw
        by_cases hxy : x = y
        · have hd : decide (x = y) = true := by simp [hxy]
          have HE := Lib.hid hxy
          clear hxy
          go_wp2_with (go_at_call 31; refine (sameSet x y vx vy _ rx' ry' nx ny).mono ?_; rintro e w' ⟨rfl, hb2⟩)
          go_roundw
          case rel => exact ⟨k + 1, by omega, by go_num, take_eq_succ HX.out HY.out HT.out HE.out, belowN hbw' hszw hb2⟩
          case measure => simp [intOf]; omega
        · have hd : decide (x = y) = false := by simp [hxy]
          have hab : decide (A = B) = false := decide_eq_false (take_ne HX.out HY.out hxy)
          have HE := Lib.hid hab
          clear hxy hab
          go_wp2_with (go_at_call 31; refine (sameSet x y vx vy _ rx' ry' nx ny).mono ?_; rintro e w' ⟨rfl, hb2⟩)
          go_ret
          exact ⟨by rw [HE.out]; rfl, belowN hbw' hszw hb2⟩
      · have hab : decide (A = B) = true := by
          simp only [decide_eq_true_eq]
          have h1 := HT.out
          rwa [List.take_of_length_le (by omega), List.take_of_length_le (by rw [← HL.out]; omega)] at h1
        have HE := Lib.hid hab
        clear hab
        go_wp2
        go_ret
        exact ⟨by rw [HE.out]; rfl, hbw⟩
  · have hl' : ((A.length : Int) != (B.length : Int)) = true := by simp; omega
    have hd : decide (A = B) = false := by simp only [decide_eq_false_iff_not]; intro h; exact hl (by rw [h])
    have HD := Lib.hid hd
    clear hl hd
    go_wp2
    go_ret
    exact ⟨by rw [HD.out]; rfl, Below.refl _ _⟩

end Go.Proofs.Ytblhnenhonfpnaa
