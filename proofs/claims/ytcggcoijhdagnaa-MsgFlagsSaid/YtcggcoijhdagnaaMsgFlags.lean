/- DERIVED. Flags: the law's walk. -/
import Derived.Test.YtcggcoijhdagnaaFlags
namespace Go.Proofs.Ytcggcoijhdagnaa
open Go Go.RowKit

set_option maxRecDepth 100000 in
theorem flags_walk (x y : Int) (pk wt : Int → Int → Int) (op cd : Int → Int) (h1 : ∀ x y, ∃ H m wr, FnS Try.prog 0 20 [.int .i64 x, .int .i64 y] .e 0 (.ret (.int .i64 (pk x y)) H m wr)) (h2 : ∀ x y, ∃ H m wr, FnS Try.prog 0 21 [.int .i64 x, .int .i64 y] .e 0 (.ret (.int .i64 (wt x y)) H m wr)) (h3 : ∀ x, ∃ H m wr, FnS Try.prog 0 23 [.int .i64 x] .e 0 (.ret (.int .i64 (op x)) H m wr)) (h4 : ∀ x, ∃ H m wr, FnS Try.prog 0 22 [.int .i64 x] .e 0 (.ret (.int .i64 (cd x)) H m wr)) (h5 : ∀ w, Calls Try.prog 19 #[] w fun e w' => e = .returned (.bool true) ∧ Below w.heap.size w w')
    (e1 : wt (pk x 65536) (cd (pk x 65536)) = pk x 65536) (e2 : cd (wt (pk x 65536) y) = IntKind.i64.wrap (BitVec.ofInt IntKind.i64.bits y &&& BitVec.ofInt IntKind.i64.bits 15).toNat) (e3 : op (wt (pk x 65536) y) = op (pk x 65536)) (e4 : (wt (pk x 65536) y).fdiv (2 ^ min (Int.toNat 4) IntKind.i64.bits) = (pk x 65536).fdiv (2 ^ min (Int.toNat 4) IntKind.i64.bits)) (e5 : 0 ≤ op (pk x 65536)) (e6 : op (pk x 65536) ≤ 15) :
    ∃ r, FnS Try.prog 0 4 [.int .i64 x, .int .i64 y] .e 0 r ∧ ∃ H m wr, r = .ret (.bool true) H m wr := by
  refine fn_sx mixed (tbOf mixed [Ct.int2 20 pk h1, Ct.int2 21 wt h2, Ct.int1 23 op h3, Ct.int1 22 cd h4, Ct.yes 19 h5]) [] Try.func4 (c := bodyOf Try.f4) (by kernel_rfl) ?_
  refine ifK (fun _ => ?_) (fun h => absurd h (by rw [e1]; simp))
  refine ifK (fun _ => ?_) (fun h => absurd h (by rw [e2]; simp))
  refine ifK (fun _ => ?_) (fun h => absurd h (by rw [e3]; simp))
  refine ifK (fun _ => ?_) (fun h => absurd h (by rw [e4]; simp))
  refine ifK (fun _ => ?_) (fun h => absurd h (by simpa using e5))
  have : decide (op (pk x 65536) ≤ 15) = true := by simpa using e6
  exact ⟨_, _, _, congrArg (fun b => Res.ret (.bool b) _ _ _) this⟩

theorem awake_eval : retTrue (evT Try.prog 0 ([] : List (Ct Try.prog 0)) 1000000 (.call 19 []) fs0) = true := by kernel_rfl
theorem awake_calls (w : World) : Calls Try.prog 19 #[] w fun e w' => e = .returned (.bool true) ∧ Below w.heap.size w w' := evT_true mixed [] 1000000 _ awake_eval w

theorem law_calls (a b : Int) (w : World) : Calls Try.prog 4 #[.int .i64 a, .int .i64 b] w fun e w' => e = .returned (.bool true) ∧ Below w.heap.size w w' := by
  have hp := pickI_of (x := a) (n := 65536) (by omega) (by omega)
  have hb1 := Int.emod_nonneg a (show (65536 : Int) ≠ 0 by omega)
  have hb2 := Int.emod_lt_of_pos a (show (0 : Int) < 65536 by omega)
  obtain ⟨n, hn⟩ : ∃ n : Nat, a % 65536 = (n : Int) := ⟨(a % 65536).toNat, by omega⟩
  have hlt : n < 65536 := by omega
  have hl := Nat.mod_lt (b64 b).toNat (show 0 < 16 by decide)
  have hm : 16 * (n / 16) + low4 b < 65536 := by unfold low4; omega
  obtain ⟨r, h, H, m, wr, rfl⟩ := flags_walk a b pickI withI opI codeI (fun x y => by obtain ⟨r, h, H, m, wr, rfl⟩ := pick_fn x y; exact ⟨H, m, wr, h⟩) (fun x y => by obtain ⟨r, h, H, m, wr, rfl⟩ := with_fn x y; exact ⟨H, m, wr, h⟩) (fun x => by obtain ⟨r, h, H, m, wr, rfl⟩ := op_fn x; exact ⟨H, m, wr, h⟩) (fun x => by obtain ⟨r, h, H, m, wr, rfl⟩ := code_fn x; exact ⟨H, m, wr, h⟩) awake_calls
    (by rw [hp, hn, withI_eq hlt, codeI_eq, low4_nat hlt, low4_nat (by omega)]; omega)
    (by rw [hp, hn, withI_eq hlt, codeI_eq, low4_nat hm]
        show _ = codeI b
        rw [codeI_eq]; unfold low4; omega)
    (by rw [hp, hn, withI_eq hlt, opI_eq hm, opI_eq hlt]; unfold low4; omega)
    (by rw [hp, hn, withI_eq hlt]
        have := @fdiv16 n
        have h2 := @fdiv16 (16 * (n / 16) + low4 b)
        show Int.fdiv _ (2 ^ min (Int.toNat 4) 64) = Int.fdiv _ (2 ^ min (Int.toNat 4) 64)
        rw [this, h2]; unfold low4; omega)
    (by rw [hp, hn, opI_eq hlt]; omega) (by rw [hp, hn, opI_eq hlt]; omega)
  exact calls_of_tok rfl rfl h w
end Go.Proofs.Ytcggcoijhdagnaa
