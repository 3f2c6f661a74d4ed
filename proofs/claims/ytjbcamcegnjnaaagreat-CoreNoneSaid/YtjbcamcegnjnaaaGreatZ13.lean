/- DERIVED. Texts put together: Mix, Ints. -/
import Derived.Test.YtjbcamcegnjnaaaGreatProg
import Derived.Test.YtjbcamcegnjnaaaGreatZ12
/- DERIVED. The program's orders of evaluation. -/
namespace Go.Proofs.YtjbcamcegnjnaaaGreat
open Go Go.RowKit
theorem mixed : Tryz.prog.follows .mixedOrders = true := by kernel_rfl
end Go.Proofs.YtjbcamcegnjnaaaGreat
/- DERIVED. Contracts of functions of numbers alone; of a closed call. -/
namespace Go.Proofs.YtjbcamcegnjnaaaGreat
open Go Go.RowKit

def Ct.int1 (f : FuncId) (out : Int → Int) (ok : ∀ x, ∃ H m wr, FnS Tryz.prog 0 f [.int .i64 x] .e 0 (.ret (.int .i64 (out x)) H m wr)) : Ct Tryz.prog 0 where
  f := f
  res l H n := match l with | [.int .i64 x] => .ret (.int .i64 (out x)) H n [] | _ => .bad "arguments" []
  ok l H n := by
    split
    · rename_i x
      obtain ⟨_, _, _, h⟩ := ok x
      exact callOK_pure h rfl rfl H n
    · trivial
  ck l H n K := match l with | [.int .i64 x] => K (.ret (.int .i64 (out x)) H n []) | _ => False
  imp l H n K h := by
    split at h
    · exact h
    · exact h.elim
def Ct.int2 (f : FuncId) (out : Int → Int → Int) (ok : ∀ x y, ∃ H m wr, FnS Tryz.prog 0 f [.int .i64 x, .int .i64 y] .e 0 (.ret (.int .i64 (out x y)) H m wr)) : Ct Tryz.prog 0 where
  f := f
  res l H n := match l with | [.int .i64 x, .int .i64 y] => .ret (.int .i64 (out x y)) H n [] | _ => .bad "arguments" []
  ok l H n := by
    split
    · rename_i x y
      obtain ⟨_, _, _, h⟩ := ok x y
      exact callOK_pure h rfl rfl H n
    · trivial
  ck l H n K := match l with | [.int .i64 x, .int .i64 y] => K (.ret (.int .i64 (out x y)) H n []) | _ => False
  imp l H n K h := by
    split at h
    · exact h
    · exact h.elim
/-- A closed call that says yes. -/
def Ct.yes (f : FuncId) (ok : ∀ w, Calls Tryz.prog f #[] w fun e w' => e = .returned (.bool true) ∧ Below w.heap.size w w') : Ct Tryz.prog 0 where
  f := f
  res l H n := match l with | [] => .ret (.bool true) H n [] | _ => .bad "arguments" []
  ok l H n := by
    split
    · exact callOK_calls ok rfl rfl H n
    · trivial
  ck l H n K := match l with | [] => K (.ret (.bool true) H n []) | _ => False
  imp l H n K h := by
    split at h
    · exact h
    · exact h.elim

/-- What a call of plain data is known to give, the model gives. -/
theorem calls_of_tok {f : FuncId} {args : List Value} {v : Value} {H : Tr AObj} {n : Nat} {wr : List Nat} (ha : plainL args = true) (hv : plainV 8 v = true) (ht : FnS Tryz.prog 0 f args .e 0 (.ret v H n wr)) (w : World) : Calls Tryz.prog f args.toArray w fun e w' => e = .returned v ∧ Below w.heap.size w w' := by
  have hc := (callOK_pure ht ha hv .e 0).2 env0 w args.toArray (fun g hg => by omega) (plainL_refl ha) ⟨fun _ h => h.elim, fun _ _ => rfl, (fun _ _ h => by cases h), (fun _ _ h => absurd rfl h), (fun _ _ h => by cases h)⟩ (fun _ _ => rfl) (fun _ _ _ h => h)
  refine (callsIn_wide.1 hc).mono ?_
  rintro e w' ⟨E', v', rfl, hv', hx, _, _, hs⟩
  rw [plain_eq 8 hv hv']
  exact ⟨rfl, hs.os, hs.tape, hs.output, hs.size, fun b hb => hs.block b hb (fun _ h => by cases h)⟩

/-- Likewise, of what was evaluated. -/
theorem calls_of_true {f : FuncId} {args : List Value} {r : Res} (ha : plainL args = true) (ht : TOK Tryz.prog 0 (.call f args) fs0 r) (h : retTrue r = true) (w : World) : Calls Tryz.prog f args.toArray w fun e w' => e = .returned (.bool true) ∧ Below w.heap.size w w' := by
  unfold retTrue at h
  split at h
  · have hc := ht.2 env0 w args.toArray (fun g hg => by omega) (plainL_refl ha) ⟨fun _ h => h.elim, fun _ _ => rfl, (fun _ _ h => by cases h), (fun _ _ h => absurd rfl h), (fun _ _ h => by cases h)⟩ (fun _ _ => rfl) (fun _ _ _ h => h)
    refine (callsIn_wide.1 hc).mono ?_
    rintro e w' ⟨E', v', rfl, hv, hx, _, _, hs⟩
    cases hv
    exact ⟨rfl, hs.os, hs.tape, hs.output, hs.size, fun b hb => hs.block b hb (fun _ h => by cases h)⟩
  · cases h

end Go.Proofs.YtjbcamcegnjnaaaGreat
