/- DERIVED. The chapter's calls of 'follows', each evaluated by itself; a contract that knows them. -/
import Derived.Test.YtgfjmkjhjfmbeaaGreatInts
namespace Go.Proofs.YtgfjmkjhjfmbeaaGreat
open Go Go.RowKit

def retB (b : Bool) (r : Res) : Bool := match r with | .ret (.bool c) _ _ [] => c == b | _ => false
theorem calls_of_retB {f : FuncId} {args : List Value} {r : Res} {b : Bool} (ha : plainL args = true) (ht : TOK Tryz.prog 0 (.call f args) fs0 r) (h : retB b r = true) (w : World) : Calls Tryz.prog f args.toArray w fun e w' => e = .returned (.bool b) ∧ Below w.heap.size w w' := by
  unfold retB at h
  split at h
  · rename_i c H n
    have hcb : c = b := by simpa using h
    subst hcb
    have hc := ht.2 env0 w args.toArray (fun g hg => by omega) (plainL_refl ha) ⟨fun _ h => h.elim, fun _ _ => rfl, (fun _ _ h => by cases h), (fun _ _ h => absurd rfl h)⟩ (fun _ _ => rfl) (fun _ _ _ h => h)
    refine (callsIn_wide.1 hc).mono ?_
    rintro e w' ⟨E', v', rfl, hv, hx, _, _, hs⟩
    cases hv
    exact ⟨rfl, hs.os, hs.tape, hs.output, hs.size, fun b hb => hs.block b hb (fun _ h => by cases h)⟩
  · cases h

theorem follows_a : retB true (evT Tryz.prog 0 ([] : List (Ct Tryz.prog 0)) 1000000 (.call 22 [.int .i64 9, .int .i64 100]) fs0) = true := by kernel_rfl
theorem follows_b : retB false (evT Tryz.prog 0 ([] : List (Ct Tryz.prog 0)) 1000000 (.call 22 [.int .i64 5, .int .i64 105]) fs0) = true := by kernel_rfl
theorem follows_c : retB true (evT Tryz.prog 0 ([] : List (Ct Tryz.prog 0)) 1000000 (.call 22 [.int .i64 4, .int .i64 105]) fs0) = true := by kernel_rfl
theorem follows_d : retB false (evT Tryz.prog 0 ([] : List (Ct Tryz.prog 0)) 1000000 (.call 22 [.int .i64 0, .int .i64 109]) fs0) = true := by kernel_rfl
theorem follows_e : retB false (evT Tryz.prog 0 ([] : List (Ct Tryz.prog 0)) 1000000 (.call 22 [.int .i64 9, .int .i64 99]) fs0) = true := by kernel_rfl

def isFollows (x y : Int) : Option Bool :=
  bif decide (x = 9) && decide (y = 100) then some true else bif decide (x = 5) && decide (y = 105) then some false else bif decide (x = 4) && decide (y = 105) then some true
  else bif decide (x = 0) && decide (y = 109) then some false else bif decide (x = 9) && decide (y = 99) then some false else none
theorem follows_calls {x y : Int} {b : Bool} (h : isFollows x y = some b) (w : World) : Calls Tryz.prog 22 #[.int .i64 x, .int .i64 y] w fun e w' => e = .returned (.bool b) ∧ Below w.heap.size w w' := by
  unfold isFollows at h
  cases h1 : (decide (x = 9) && decide (y = 100)) with
  | true =>
    rw [h1] at h; simp only [Bool.and_eq_true, decide_eq_true_eq] at h1; obtain ⟨rfl, rfl⟩ := h1; cases h
    exact calls_of_retB rfl (evT_ok mixed [] 1000000 _ _) follows_a w
  | false =>
  rw [h1] at h
  cases h2 : (decide (x = 5) && decide (y = 105)) with
  | true =>
    rw [h2] at h; simp only [Bool.and_eq_true, decide_eq_true_eq] at h2; obtain ⟨rfl, rfl⟩ := h2; cases h
    exact calls_of_retB rfl (evT_ok mixed [] 1000000 _ _) follows_b w
  | false =>
  rw [h2] at h
  cases h3 : (decide (x = 4) && decide (y = 105)) with
  | true =>
    rw [h3] at h; simp only [Bool.and_eq_true, decide_eq_true_eq] at h3; obtain ⟨rfl, rfl⟩ := h3; cases h
    exact calls_of_retB rfl (evT_ok mixed [] 1000000 _ _) follows_c w
  | false =>
  rw [h3] at h
  cases h4 : (decide (x = 0) && decide (y = 109)) with
  | true =>
    rw [h4] at h; simp only [Bool.and_eq_true, decide_eq_true_eq] at h4; obtain ⟨rfl, rfl⟩ := h4; cases h
    exact calls_of_retB rfl (evT_ok mixed [] 1000000 _ _) follows_d w
  | false =>
  rw [h4] at h
  cases h5 : (decide (x = 9) && decide (y = 99)) with
  | true =>
    rw [h5] at h; simp only [Bool.and_eq_true, decide_eq_true_eq] at h5; obtain ⟨rfl, rfl⟩ := h5; cases h
    exact calls_of_retB rfl (evT_ok mixed [] 1000000 _ _) follows_e w
  | false => rw [h5] at h; cases h

def ct_follows : Ct Tryz.prog 0 where
  f := 22
  res l H n := match l with | [.int .i64 x, .int .i64 y] => (match isFollows x y with | some b => .ret (.bool b) H n [] | none => .bad "follows" []) | _ => .bad "follows" []
  ok l H n := by
    split
    · rename_i x y
      cases h : isFollows x y with
      | none => trivial
      | some b => exact callOK_calls (fun w => follows_calls h w) rfl rfl H n
    · trivial
  ck l H n K := match l with | [.int .i64 x, .int .i64 y] => (match isFollows x y with | some b => K (.ret (.bool b) H n []) | none => False) | _ => False
  imp l H n K h := by
    split at h
    · rename_i x y
      cases h1 : isFollows x y with
      | some b => rw [h1] at h; simp only []; exact h
      | none => rw [h1] at h; exact h.elim
    · exact h.elim
end Go.Proofs.YtgfjmkjhjfmbeaaGreat
