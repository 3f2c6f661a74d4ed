/- DERIVED. Contracts of functions of numbers alone; of a closed call. -/
import Derived.Test.YtmhoookhpcfagaaMix
import Derived.Test.YtmhoookhpcfagaaS8
namespace Go.Proofs.Ytmhoookhpcfagaa
open Go Go.RowKit

def Ct.int1 (f : FuncId) (out : Int → Int) (ok : ∀ x, ∃ H m wr, FnS Try.prog 0 f [.int .i64 x] .e 0 (.ret (.int .i64 (out x)) H m wr)) : Ct Try.prog 0 where
  f := f
  res l H n := match l with | [.int .i64 x] => .ret (.int .i64 (out x)) H n [] | _ => .bad "arguments" []
  ok l H n := by
    split
    · rename_i x
      obtain ⟨_, _, _, h⟩ := ok x
      exact callOK_pure h rfl rfl H n
    · trivial
  ck l H n K := match l with | [.int .i64 x] => K (.ret (.int .i64 (out x)) H n []) | _ => False
  imp l H n K h := by
    split at h
    · exact h
    · exact h.elim
def Ct.int2 (f : FuncId) (out : Int → Int → Int) (ok : ∀ x y, ∃ H m wr, FnS Try.prog 0 f [.int .i64 x, .int .i64 y] .e 0 (.ret (.int .i64 (out x y)) H m wr)) : Ct Try.prog 0 where
  f := f
  res l H n := match l with | [.int .i64 x, .int .i64 y] => .ret (.int .i64 (out x y)) H n [] | _ => .bad "arguments" []
  ok l H n := by
    split
    · rename_i x y
      obtain ⟨_, _, _, h⟩ := ok x y
      exact callOK_pure h rfl rfl H n
    · trivial
  ck l H n K := match l with | [.int .i64 x, .int .i64 y] => K (.ret (.int .i64 (out x y)) H n []) | _ => False
  imp l H n K h := by
    split at h
    · exact h
    · exact h.elim
/-- A closed call that says yes. -/
def Ct.yes (f : FuncId) (ok : ∀ w, Calls Try.prog f #[] w fun e w' => e = .returned (.bool true) ∧ Below w.heap.size w w') : Ct Try.prog 0 where
  f := f
  res l H n := match l with | [] => .ret (.bool true) H n [] | _ => .bad "arguments" []
  ok l H n := by
    split
    · exact callOK_calls ok rfl rfl H n
    · trivial
  ck l H n K := match l with | [] => K (.ret (.bool true) H n []) | _ => False
  imp l H n K h := by
    split at h
    · exact h
    · exact h.elim

/-- What a call of plain data is known to give, the model gives. -/
theorem calls_of_tok {f : FuncId} {args : List Value} {v : Value} {H : Tr AObj} {n : Nat} {wr : List Nat} (ha : plainL args = true) (hv : plainV 8 v = true) (ht : FnS Try.prog 0 f args .e 0 (.ret v H n wr)) (w : World) : Calls Try.prog f args.toArray w fun e w' => e = .returned v ∧ Below w.heap.size w w' := by
  have hc := (callOK_pure ht ha hv .e 0).2 env0 w args.toArray (fun g hg => by omega) (plainL_refl ha) ⟨fun _ h => h.elim, fun _ _ => rfl, (fun _ _ h => by cases h), (fun _ _ h => absurd rfl h)⟩ (fun _ _ => rfl) (fun _ _ _ h => h)
  refine (callsIn_wide.1 hc).mono ?_
  rintro e w' ⟨E', v', rfl, hv', hx, _, _, hs⟩
  rw [plain_eq 8 hv hv']
  exact ⟨rfl, hs.os, hs.tape, hs.output, hs.size, fun b hb => hs.block b hb (fun _ h => by cases h)⟩

/-- Likewise, of what was evaluated. -/
theorem calls_of_true {f : FuncId} {args : List Value} {r : Res} (ha : plainL args = true) (ht : TOK Try.prog 0 (.call f args) fs0 r) (h : retTrue r = true) (w : World) : Calls Try.prog f args.toArray w fun e w' => e = .returned (.bool true) ∧ Below w.heap.size w w' := by
  unfold retTrue at h
  split at h
  · have hc := ht.2 env0 w args.toArray (fun g hg => by omega) (plainL_refl ha) ⟨fun _ h => h.elim, fun _ _ => rfl, (fun _ _ h => by cases h), (fun _ _ h => absurd rfl h)⟩ (fun _ _ => rfl) (fun _ _ _ h => h)
    refine (callsIn_wide.1 hc).mono ?_
    rintro e w' ⟨E', v', rfl, hv, hx, _, _, hs⟩
    cases hv
    exact ⟨rfl, hs.os, hs.tape, hs.output, hs.size, fun b hb => hs.block b hb (fun _ h => by cases h)⟩
  · cases h

/-- Pick. -/
def pickI (x n : Int) : Int := if n < 1 then 0 else if x.tmod n < 0 then IntKind.i64.wrap (x.tmod n + n) else x.tmod n
noncomputable def tbN : Tb Try.prog 0 := tbOf mixed []
set_option maxRecDepth 100000 in
theorem pick_fn (x y : Int) : ∃ r, FnS Try.prog 0 21 [.int .i64 x, .int .i64 y] .e 0 r ∧ ∃ H m wr, r = .ret (.int .i64 (pickI x y)) H m wr := by
  refine fn_sx mixed tbN [] Try.func21 (c := bodyOf Try.f21) (by kernel_rfl) ?_
  refine ifK (fun h => ?_) (fun h => ?_)
  · have h := of_decide_eq_true h
    exact ⟨_, _, _, by unfold pickI; rw [if_pos h]; rfl⟩
  · have h := of_decide_eq_false h
    refine And.intro (by have : y ≠ 0 := by omega
                         simpa using this) ?_
    refine ifK (fun h2 => ?_) (fun h2 => ?_)
    · have h2 := of_decide_eq_true h2
      exact ⟨_, _, _, by unfold pickI; rw [if_neg h, if_pos h2]; rfl⟩
    · have h2 := of_decide_eq_false h2
      exact ⟨_, _, _, by unfold pickI; rw [if_neg h, if_neg h2]; rfl⟩
def ct_pick : Ct Try.prog 0 := Ct.int2 21 pickI (fun x y => by obtain ⟨r, h, H, m, wr, rfl⟩ := pick_fn x y; exact ⟨H, m, wr, h⟩)
theorem pickI_of {x n : Int} (h : 1 ≤ n) (hn : n ≤ 4611686018427387904) : pickI x n = x % n := by
  unfold pickI
  rw [if_neg (by omega)]
  have h1 := @Int.tmod_eq_emod x n
  have h2 := Int.emod_nonneg x (show n ≠ 0 by omega)
  have h3 := Int.emod_lt_of_pos x (show 0 < n by omega)
  split
  · rename_i hlt
    rw [h1] at hlt ⊢
    split at hlt
    · omega
    · rename_i hh
      rw [if_neg hh]
      have : (n.natAbs : Int) = n := by omega
      rw [wrap_i64 (by omega) (by omega)]
      omega
  · rename_i hlt
    rw [h1] at hlt ⊢
    split
    · omega
    · rename_i hh
      rw [if_neg hh] at hlt
      omega
end Go.Proofs.Ytmhoookhpcfagaa
