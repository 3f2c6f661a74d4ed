/- DERIVED. Sizes of lists of records; the least TTLs. -/
import Derived.Test.YtblhnenhonfpnaaKit1
namespace Go.Proofs.Ytblhnenhonfpnaa
open Go.RowKit

/-- What an argument's lengths keep to. -/
def Rc.small (r : Rc) : Prop := r.name.length ≤ 140737488355328 ∧ r.data.length ≤ 140737488355328
def tot : List Rc → Nat
  | [] => 0
  | r :: l => r.name.length + r.data.length + tot l
theorem tot_append (a b : List Rc) : tot (a ++ b) = tot a + tot b := by
  induction a with
  | nil => simp [tot]
  | cons x a ih => simp only [List.cons_append, tot, ih]; omega
theorem tot_take (l : List Rc) (k : Nat) : tot (l.take k) ≤ tot l := by
  have := tot_append (l.take k) (l.drop k)
  rw [List.take_append_drop] at this; omega
theorem tot_succ (l : List Rc) (k : Nat) (x : Rc) (h : l[k]? = some x) : tot (l.take (k + 1)) = tot (l.take k) + x.name.length + x.data.length := by
  rw [List.take_add_one, tot_append, h]; simp [tot]; omega

def longRecsB (l : List Rc) (most : Int) : Bool := decide (most < l.length ∨ 2000 < tot l)

set_option maxHeartbeats 400000 in
theorem longRecs (v : Value) (l : List Rc) (most : Int) (w : World) (hl : ReadsRecs w v l) (hs : ∀ r ∈ l, r.small) (hn : l.length ≤ 140737488355328) :
    Calls Try.prog 10 #[v, .int .i64 most] w fun e w' => e = .returned (.bool (longRecsB l most)) ∧ ∃ k, w' = w.drewN k := by
  obtain ⟨aa, ca, eva⟩ : ∃ a c, v = .slice a l.length c := by rcases hl.at with ⟨rfl, rfl⟩ | ⟨b, o, cap, rfl, _⟩ <;> exact ⟨_, _, rfl⟩
  subst eva
  go_enter Try.func10, Try.ntmps10
  go_wp2
  go_loopw [5, 6] (fun n i wr => ∃ k m : Nat, k ≤ l.length ∧ i = .int .i64 k ∧ n = .int .i64 m ∧ Hid (m = tot (l.take k)) ∧ m ≤ 2000 + 140737488355328 + 140737488355328 ∧ ∃ q, wr = w.drewN q) (fun _ i _ => l.length - (intOf i).toNat)
  case atStart => exact ⟨0, 0, Nat.zero_le _, rfl, rfl, rfl, by omega, 0, rfl⟩
  case round =>
    obtain ⟨k, m, hk, rfl, rfl, HM, hm, q, rfl⟩ := hrel
    by_cases hgo : k < l.length ∧ m ≤ 2000
    · obtain ⟨hlt, hm2⟩ := hgo
      have hx : l[k]? = some l[k] := List.getElem?_eq_getElem hlt
      obtain ⟨s1, s2⟩ := hs l[k] (List.getElem_mem hlt)
      generalize l[k] = x at hx s1 s2
      rcases hl.at with ⟨h, rfl⟩ | ⟨b, o, cap, h, _, _, g⟩
      · simp at hlt
      simp only [Value.slice.injEq] at h
      obtain ⟨rfl, -, -⟩ := h
      obtain ⟨_, -, rfl, g⟩ := g k x hx
      have a0 := g 0 _ rfl
      have a4 := g 4 _ rfl
      simp only [Nat.add_zero] at a0
      have ht := tot_succ l k x hx
      have HT := Lib.hid ht
      clear g hl hx ht hs
      go_wp2
      go_quiet (fail)
      go_wp2
      go_roundw
      case rel => exact ⟨k + 1, m + x.name.length + x.data.length, by omega, by go_num, by go_num, by unfold Hid; rw [HT.out, HM.out], by omega, q + nq, by simp⟩
      case measure => simp [intOf]; omega
    · have htk := tot_take l k
      have hM := HM.out
      by_cases hmo : most < l.length
      · have hR : longRecsB l most = true := by simp [longRecsB, hmo]
        have HR := Lib.hid hR
        clear hR htk hM
        go_wp2
        all_goals
          go_ret
          exact ⟨by rw [HR.out]; rfl, q, by simp⟩
      · by_cases hm2 : 2000 < m
        · have hR : longRecsB l most = true := by simp only [longRecsB, decide_eq_true_eq]; omega
          have hd : decide ((2000 : Int) < (m : Int)) = true := by simp; omega
          have HR := Lib.hid hR
          clear hR htk hM
          go_wp2
          all_goals
            go_ret
            exact ⟨by rw [HR.out]; rfl, q, by simp⟩
        · have hkl : l.length ≤ k := by omega
          rw [List.take_of_length_le hkl] at hM
          have hR : longRecsB l most = false := by simp only [longRecsB, decide_eq_false_iff_not]; omega
          have HR := Lib.hid hR
          have hnk : ¬ k < l.length := by omega
          have hd : decide ((2000 : Int) < (m : Int)) = false := by simp; omega
          clear hR htk hM hkl
          go_wp2
          all_goals
            go_ret
            exact ⟨by rw [HR.out]; rfl, q, by simp⟩
end Go.Proofs.Ytblhnenhonfpnaa
