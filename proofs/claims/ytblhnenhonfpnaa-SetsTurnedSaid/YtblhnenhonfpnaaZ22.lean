/- DERIVED. Texts put together: Kit1, Kit2, Has. -/
import Derived.Test.YtblhnenhonfpnaaProg
import Derived.Test.YtblhnenhonfpnaaZ16
set_option maxRecDepth 1000000
set_option maxHeartbeats 32000000
namespace Go.Proofs.Ytblhnenhonfpnaa
open Go.RowKit
end Go.Proofs.Ytblhnenhonfpnaa
namespace Go.Proofs.Ytblhnenhonfpnaa
open Go.RowKit
def Rc.small (r : Rc) : Prop := r.name.length ≤ 140737488355328 ∧ r.data.length ≤ 140737488355328
def tot : List Rc → Nat
 | [] => 0
 | r :: l => r.name.length + r.data.length + tot l
end Go.Proofs.Ytblhnenhonfpnaa
namespace Go.Proofs.Ytblhnenhonfpnaa
open Go.RowKit
def IdxOf (s : Bs) (l : List Bs) (n : Int) : Prop := decide (0 ≤ n) = decide (s ∈ l)
theorem zPg (v : Value) (l : List Bs) (s : Bs) (w : World) (hl : ReadsTexts w v l) :
  Calls Try.prog 51 #[v, str s] w fun e w' => (∃ n : Int, e = .returned (.int .i64 n) ∧ IdxOf s l n) ∧ w = w' := by
 have hn := reads_len hl
 unfold maxLen at hn
 obtain ⟨aal, cal, eval⟩ : ∃ a c, v = .slice a l.length c := by rcases hl.at with ⟨rfl, rfl⟩ | ⟨b, o, cap, rfl, _⟩ <;> exact ⟨_, _, rfl⟩
 subst eval
 go_enter Try.func51, Try.ntmps51
 go_wp2
 go_loop [8] (fun i => ∃ k : Nat, k ≤ l.length ∧ i = .int .i64 k ∧ Hid (s ∉ l.take k)) (fun i => l.length - (intOf i).toNat)
 case atStart => exact ⟨0, Nat.zero_le _, rfl, by simp [Hid]⟩
 case round =>
  obtain ⟨k, hk, rfl, HN⟩ := hrel
  by_cases hlt : k < l.length
  ·have hmem : l[k] ∈ l := List.getElem_mem hlt
   have htk : l.take (k + 1) = l.take k ++ [l[k]] := List.take_succ_eq_append_getElem hlt
   have hxa : l[k]? = some l[k] := List.getElem?_eq_getElem hlt
   generalize l[k] = x at hxa hmem htk
   rcases hl.at with ⟨h, rfl⟩ | ⟨ba, oa, capa, h, _, _, ga⟩
   ·simp at hlt
   simp only [Value.slice.injEq] at h
   obtain ⟨rfl, -, -⟩ := h
   obtain ⟨csa, hcsa, rfl, ga⟩ := ga k x hxa
   have a0 := ga 0 _ rfl
   simp only [Nat.add_zero, Nat.mul_one] at a0
   clear ga
   clear hl
   have HX := Lib.hid hxa
   have HT := Lib.hid htk
   clear hxa htk
   by_cases hq : x = s
   ·have hq'' : (s == x) = true := by simp [hq]
    have hR : decide (s ∈ l) = true := by simp only [decide_eq_true_eq]; rw [← hq]; exact hmem
    have HR := Lib.hid hR
    clear hq hR hmem
    go_wp2
    go_ret
    exact ⟨⟨k, rfl, by unfold IdxOf; rw [HR.out]; simp⟩, rfl⟩
   ·have hq'' : (s == x) = false := by simp; exact fun h => hq h.symm
    have HQ := Lib.hid hq
    clear hq hmem
    go_wp2
    go_round
    case rel => exact ⟨k + 1, by omega, by go_num, by unfold Hid; rw [HT.out]; simp only [List.mem_append, List.mem_singleton, not_or]; exact ⟨HN, fun h => HQ.out h.symm⟩⟩
    case measure => simp [intOf]; omega
  ·have hR : decide (s ∈ l) = false := by
    have := HN.out; rw [List.take_of_length_le (by omega)] at this; simpa using this
   have HR := Lib.hid hR
   clear hR
   go_wp2
   go_ret
   exact ⟨⟨-1, rfl, by unfold IdxOf; rw [HR.out]; simp⟩, rfl⟩
theorem zEm (v : Value) (l : List Bs) (s : Bs) (w : World) (hl : ReadsTexts w v l) :
  Calls Try.prog 39 #[v, str s] w fun e w' => e = .returned (.bool (decide (s ∈ l))) ∧ w = w' := by
 go_enter Try.func39, Try.ntmps39
 go_wp2_with (go_at_call 51; refine (zPg _ _ _ _ hl).mono ?_; rintro e w' ⟨⟨n, rfl, hd⟩, rfl⟩)
 go_ret
 exact ⟨by rw [← show _ = _ from hd]; rfl, rfl⟩
end Go.Proofs.Ytblhnenhonfpnaa
