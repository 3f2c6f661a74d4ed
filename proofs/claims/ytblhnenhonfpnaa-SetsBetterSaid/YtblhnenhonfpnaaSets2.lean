/- DERIVED. The least TTL; what goes in the place of what. -/
import Derived.Test.YtblhnenhonfpnaaSets1
namespace Go.Proofs.Ytblhnenhonfpnaa
open Go.RowKit

def leastF (m : Int) (l : List St) : Int := l.foldl (fun m s => min m s.ttl) m
def leastOf : List St → Int
  | [] => 0
  | x :: l => leastF x.ttl l
theorem min_if (a b : Int) : (if b < a then b else a) = min a b := by rw [Int.min_def]; split <;> split <;> omega
theorem leastF_succ (m : Int) {l : List St} {k : Nat} {x : St} (h : l[k]? = some x) : leastF m (l.take (k + 1)) = min (leastF m (l.take k)) x.ttl := by
  rw [List.take_add_one, h]; simp [leastF]
theorem leastF_one {l : List St} {x : St} (h : l[0]? = some x) : leastF x.ttl (l.take 1) = x.ttl := by
  rw [show 1 = 0 + 1 from rfl, leastF_succ x.ttl h]; simp [leastF]
theorem leastF_all {l : List St} {x : St} (h : l[0]? = some x) : leastF x.ttl l = leastOf l := by
  cases l with
  | nil => simp at h
  | cons y l => simp only [List.getElem?_cons_zero, Option.some.injEq] at h; subst h; simp [leastF, leastOf]

set_option maxHeartbeats 400000 in
theorem setsLeast (v : Value) (l : List St) (w : World) (hl : ReadsSets w v l) (hn : l.length ≤ 140737488355328) :
    Calls Try.prog 16 #[v] w fun e w' => e = .returned (.int .i64 (leastOf l)) ∧ Below w.heap.size w w' := by
  obtain ⟨aal, cal, eval⟩ : ∃ a c, v = .slice a l.length c := by rcases hl.at with ⟨rfl, rfl⟩ | ⟨b, o, cap, rfl, _⟩ <;> exact ⟨_, _, rfl⟩
  subst eval
  go_enter Try.func16, Try.ntmps16
  by_cases hz : l.length = 0
  · have hz' : ((l.length : Int) == 0) = true := by simp [hz]
    have hR : leastOf l = 0 := by rw [List.eq_nil_of_length_eq_zero hz]; rfl
    have HR := Lib.hid hR
    clear hz hR
    go_wp2
    go_ret
    exact ⟨by rw [HR.out]; rfl, Below.refl _ _⟩
  · have hz' : ((l.length : Int) == 0) = false := by simp; exact fun h => hz (by rw [h]; rfl)
    have h0 : 0 < l.length := by omega
    have hl0 := hl
    have hxz : l[0]? = some l[0] := List.getElem?_eq_getElem h0
    generalize l[0] = x0 at hxz
    rcases hl0.at with ⟨h, rfl⟩ | ⟨bz, oz, capz, h, _, _, gz⟩
    · simp at h0
    simp only [Value.slice.injEq, Option.some.injEq, Addr.mk.injEq, and_true] at h
    first | (obtain ⟨rfl, -, -⟩ := h) | (obtain ⟨⟨rfl, rfl⟩, -, -⟩ := h) | (obtain ⟨⟨rfl, rfl⟩, -⟩ := h) | (obtain ⟨rfl, -⟩ := h)
    obtain ⟨csz, hcsz, ⟨vz, rfl, _⟩, gz⟩ := gz 0 x0 hxz
    have z0 := gz 0 _ rfl
    have z1 := gz 1 _ rfl
    have z2 := gz 2 _ rfl
    have z3 := gz 3 _ rfl
    have z4 := gz 4 _ rfl
    simp only [Nat.add_zero, Nat.mul_one] at z0
    clear gz
    clear hl0
    simp only [Nat.zero_mul, Nat.add_zero] at z0 z1 z2 z3 z4
    have HX0 := Lib.hid hxz
    clear hxz hz
    go_wp2
    clear z0 z1 z2 z3 z4
    go_loopw [3, 15] (fun m i wr => ∃ k : Nat, 0 ≤ k ∧ k ≤ l.length ∧ i = .int .i64 k ∧ m = .int .i64 (leastF x0.ttl (l.take k)) ∧ Below w.heap.size w wr) (fun _ i _ => l.length - (intOf i).toNat)
    case atStart => exact ⟨0, Nat.le_refl _, by omega, rfl, rfl, Below.refl _ _⟩
    case round =>
      obtain ⟨k, hk0, hk, rfl, rfl, hbw⟩ := hrel
      by_cases hlt : k < l.length
      · have hl' := readsSets_below hl hbw
        have hsz := hbw.size
        have hxa : l[k]? = some l[k] := List.getElem?_eq_getElem hlt
        generalize l[k] = x at hxa
        rcases hl'.at with ⟨h, rfl⟩ | ⟨ba, oa, capa, h, _, _, ga⟩
        · simp at hlt
        simp only [Value.slice.injEq, Option.some.injEq, Addr.mk.injEq, and_true] at h
        first | (obtain ⟨rfl, -, -⟩ := h) | (obtain ⟨⟨rfl, rfl⟩, -, -⟩ := h) | (obtain ⟨⟨rfl, rfl⟩, -⟩ := h) | (obtain ⟨rfl, -⟩ := h)
        obtain ⟨csa, hcsa, ⟨vx, rfl, rx⟩, ga⟩ := ga k x hxa
        have a0 := ga 0 _ rfl
        have a1 := ga 1 _ rfl
        have a2 := ga 2 _ rfl
        have a3 := ga 3 _ rfl
        have a4 := ga 4 _ rfl
        simp only [Nat.add_zero, Nat.mul_one] at a0
        obtain ⟨sax, scx, rfl⟩ : ∃ a c, vx = .slice a x.data.length c := by rcases rx.at with ⟨rfl, h⟩ | ⟨b, o, cap, rfl, _⟩ <;> first | exact ⟨_, _, rfl⟩ | (rw [h]; exact ⟨_, _, rfl⟩)
        clear ga
        have hs := leastF_succ x0.ttl hxa
        have HS := Lib.hid hs
        clear hl hxa hs rx
        go_wp2
        go_roundw
        case rel => exact ⟨k + 1, by omega, by omega, by go_num, by rw [HS.out, ← min_if], (hbw.alloc hsz _)⟩
        case measure => simp [intOf]; omega
      · have hR : leastF x0.ttl (l.take k) = leastOf l := by rw [List.take_of_length_le (by omega)]; exact leastF_all HX0.out
        have HR := Lib.hid hR
        clear hR
        go_wp2
        go_ret
        exact ⟨by rw [← HR.out]; rfl, hbw⟩

set_option maxHeartbeats 400000 in
theorem refLeast (v : Value) (l : List St) (w : World) (hl : ReadsSets w v l) (hn : l.length ≤ 140737488355328) :
    Calls Try.prog 17 #[v] w fun e w' => e = .returned (.int .i64 (leastOf l)) ∧ Below w.heap.size w w' := by
  obtain ⟨aal, cal, eval⟩ : ∃ a c, v = .slice a l.length c := by rcases hl.at with ⟨rfl, rfl⟩ | ⟨b, o, cap, rfl, _⟩ <;> exact ⟨_, _, rfl⟩
  subst eval
  go_enter Try.func17, Try.ntmps17
  by_cases hz : l.length = 0
  · have hz' : ((l.length : Int) == 0) = true := by simp [hz]
    have hR : leastOf l = 0 := by rw [List.eq_nil_of_length_eq_zero hz]; rfl
    have HR := Lib.hid hR
    clear hz hR
    go_wp2
    go_ret
    exact ⟨by rw [HR.out]; rfl, Below.refl _ _⟩
  · have hz' : ((l.length : Int) == 0) = false := by simp; exact fun h => hz (by rw [h]; rfl)
    have h0 : 0 < l.length := by omega
    have hl0 := hl
    have hxz : l[0]? = some l[0] := List.getElem?_eq_getElem h0
    generalize l[0] = x0 at hxz
    rcases hl0.at with ⟨h, rfl⟩ | ⟨bz, oz, capz, h, _, _, gz⟩
    · simp at h0
    simp only [Value.slice.injEq, Option.some.injEq, Addr.mk.injEq, and_true] at h
    first | (obtain ⟨rfl, -, -⟩ := h) | (obtain ⟨⟨rfl, rfl⟩, -, -⟩ := h) | (obtain ⟨⟨rfl, rfl⟩, -⟩ := h) | (obtain ⟨rfl, -⟩ := h)
    obtain ⟨csz, hcsz, ⟨vz, rfl, _⟩, gz⟩ := gz 0 x0 hxz
    have z0 := gz 0 _ rfl
    have z1 := gz 1 _ rfl
    have z2 := gz 2 _ rfl
    have z3 := gz 3 _ rfl
    have z4 := gz 4 _ rfl
    simp only [Nat.add_zero, Nat.mul_one] at z0
    clear gz
    clear hl0
    simp only [Nat.zero_mul, Nat.add_zero] at z0 z1 z2 z3 z4
    have HX0 := Lib.hid hxz
    clear hxz hz
    go_wp2
    clear z0 z1 z2 z3 z4
    go_loopw [3, 4] (fun m i wr => ∃ k : Nat, 1 ≤ k ∧ k ≤ l.length ∧ i = .int .i64 k ∧ m = .int .i64 (leastF x0.ttl (l.take k)) ∧ Below w.heap.size w wr) (fun _ i _ => l.length - (intOf i).toNat)
    case atStart => exact ⟨1, Nat.le_refl _, by omega, rfl, by rw [leastF_one HX0.out], Below.refl _ _⟩
    case round =>
      obtain ⟨k, hk0, hk, rfl, rfl, hbw⟩ := hrel
      by_cases hlt : k < l.length
      · have hl' := readsSets_below hl hbw
        have hsz := hbw.size
        have hxa : l[k]? = some l[k] := List.getElem?_eq_getElem hlt
        generalize l[k] = x at hxa
        rcases hl'.at with ⟨h, rfl⟩ | ⟨ba, oa, capa, h, _, _, ga⟩
        · simp at hlt
        simp only [Value.slice.injEq, Option.some.injEq, Addr.mk.injEq, and_true] at h
        first | (obtain ⟨rfl, -, -⟩ := h) | (obtain ⟨⟨rfl, rfl⟩, -, -⟩ := h) | (obtain ⟨⟨rfl, rfl⟩, -⟩ := h) | (obtain ⟨rfl, -⟩ := h)
        obtain ⟨csa, hcsa, ⟨vx, rfl, rx⟩, ga⟩ := ga k x hxa
        have a0 := ga 0 _ rfl
        have a1 := ga 1 _ rfl
        have a2 := ga 2 _ rfl
        have a3 := ga 3 _ rfl
        have a4 := ga 4 _ rfl
        simp only [Nat.add_zero, Nat.mul_one] at a0
        obtain ⟨sax, scx, rfl⟩ : ∃ a c, vx = .slice a x.data.length c := by rcases rx.at with ⟨rfl, h⟩ | ⟨b, o, cap, rfl, _⟩ <;> first | exact ⟨_, _, rfl⟩ | (rw [h]; exact ⟨_, _, rfl⟩)
        clear ga
        have hs := leastF_succ x0.ttl hxa
        have HS := Lib.hid hs
        clear hl hxa hs rx
        go_wp2
        go_roundw
        case rel => exact ⟨k + 1, by omega, by omega, by go_num, by rw [HS.out, ← min_if], hbw⟩
        case measure => simp [intOf]; omega
      · have hR : leastF x0.ttl (l.take k) = leastOf l := by rw [List.take_of_length_le (by omega)]; exact leastF_all HX0.out
        have HR := Lib.hid hR
        clear hR
        go_wp2
        go_ret
        exact ⟨by rw [← HR.out]; rfl, hbw⟩

theorem setsBetter (a b : Int) (o : Bool) (w : World) : Calls Try.prog 18 #[.int .i64 a, .int .i64 b, .bool o] w fun e w' => e = .returned (.bool (o || decide (a ≤ b))) ∧ w = w' := by
  cases o
  all_goals
    go_enter Try.func18, Try.ntmps18
    go_wp2
    go_ret
    exact ⟨rfl, rfl⟩
theorem refBetter (a b : Int) (o : Bool) (w : World) : Calls Try.prog 19 #[.int .i64 a, .int .i64 b, .bool o] w fun e w' => e = .returned (.bool (o || decide (a ≤ b))) ∧ w = w' := by
  cases o
  all_goals
    go_enter Try.func19, Try.ntmps19
    go_wp2
    go_ret
    exact ⟨rfl, rfl⟩

end Go.Proofs.Ytblhnenhonfpnaa
