/- DERIVED. Texts put together: Mix, Ints, O1, O2, Aw10. -/
import Derived.Test.YtmhoookhpcfagaaProg
import Derived.Test.YtmhoookhpcfagaaZ14
set_option maxRecDepth 1000000
set_option maxHeartbeats 32000000
namespace Go.Proofs.Ytmhoookhpcfagaa
open Go Go.RowKit
theorem mixed : Try.prog.follows .mixedOrders = true := by kernel_rfl
end Go.Proofs.Ytmhoookhpcfagaa
namespace Go.Proofs.Ytmhoookhpcfagaa
open Go Go.RowKit
def Ct.yes (f : FuncId) (ok : ∀ w : World, 0 < w.heap.size → Calls Try.prog f #[] w fun e w' => e = .returned (.bool true) ∧ Below w.heap.size w w') : Ct Try.prog 0 where
 f := f
 res l H n := match l with | [] => .ret (.bool true) H n [] | _ => .bad "arguments" []
 ok l H n := by
  split
  ·exact zEq ok rfl rfl H n
  ·trivial
 ck l H n K := match l with | [] => K (.ret (.bool true) H n []) | _ => False
 imp l H n K h := by
  split at h
  ·exact h
  ·exact h.elim
theorem zEr {f : FuncId} {args : List Value} {r : Res} (ha : plainL args = true) (ht : TOK Try.prog 0 (.call f args) fs0 r) (h : zDh r = true) (w : World) (hpos : 0 < w.heap.size) : Calls Try.prog f args.toArray w fun e w' => e = .returned (.bool true) ∧ Below w.heap.size w w' := by
 unfold zDh at h
 split at h
 ·have hc := ht.2 env0 w args.toArray (fun g hg => by omega) (zBf ha) ⟨fun _ h => h.elim, fun _ _ => rfl, (fun _ _ h => by cases h), (fun _ _ h => absurd rfl h), (fun _ _ h => by cases h), (fun _ _ h => by cases h), (fun _ h => absurd rfl h), hpos⟩ (fun _ _ => rfl) (fun _ _ _ h => h)
  refine (callsIn_wide.1 hc).mono ?_
  rintro e w' ⟨E', v', rfl, hv, hx, _, _, hs⟩
  cases hv
  exact ⟨rfl, hs.os, hs.tape, hs.output, hs.size, fun b hb => hs.block b hb (fun _ h => by cases h)⟩
 ·cases h
end Go.Proofs.Ytmhoookhpcfagaa
namespace Go.Proofs.Ytmhoookhpcfagaa
open Go Go.RowKit
abbrev Bl := List UInt8
def byV (b : UInt8) : Value := .int .u8 (b.toNat : Int)
theorem zNd {H : Tr AObj} {b : Nat} {t : TypeId} {z : Nat} {C : List Value} (h : H.get b = some (.cells C t)) : seesB H b t z C := by
 unfold seesB; rw [h]; simp [AObj.as]
structure RdB where
 b : Nat
 o : Nat
 n : Nat
 c : Nat
 l : Bl
def RdB.sl (x : RdB) : Value := .slice (some ⟨x.b, x.o, none⟩) x.n x.c
def RdB.at (x : RdB) (H : Tr AObj) : Prop := seesB H x.b 5 1 (x.l.map byV) ∧ x.o + x.n ≤ x.l.length
theorem map_byV {a b : Bl} (h : a.map byV = b.map byV) : a = b := by
 refine List.map_inj_right (fun x y e => ?_) |>.1 h
 simp only [byV, Value.int.injEq, true_and] at e
 exact UInt8.toNat_inj.1 (by omega)
theorem RdB.uniq {x y : RdB} {H : Tr AObj} (h : x.sl = y.sl) (hx : x.at H) (hy : y.at H) : x = y := by
 obtain ⟨b, o, n, c, l⟩ := x
 obtain ⟨b', o', n', c', l'⟩ := y
 simp only [RdB.sl, Value.slice.injEq, Option.some.injEq, Addr.mk.injEq, and_true] at h
 obtain ⟨⟨rfl, rfl⟩, rfl, rfl⟩ := h
 rw [show l = l' from map_byV (seesB.uniq hx.1 hy.1)]
end Go.Proofs.Ytmhoookhpcfagaa
namespace Go.Proofs.Ytmhoookhpcfagaa
open Go Go.RowKit
theorem wrapM {x : Int} (h1 : 0 ≤ x) (h2 : x < 9223372036854775808) : IntKind.i64.wrap x = x := zOk (by omega) h2
end Go.Proofs.Ytmhoookhpcfagaa
namespace Go.Proofs.Ytmhoookhpcfagaa
open Go Go.RowKit
theorem fits_a : zDh (evT Try.prog 0 ([] : List (Ct Try.prog 0)) 1000000 (.call 27 [.int .i64 46, .int .i64 46, .int .i64 0]) fs0) = true := by kernel_rfl
theorem fits_b : zDh (evT Try.prog 0 ([] : List (Ct Try.prog 0)) 1000000 (.call 27 [.int .i64 45, .int .i64 30, .int .i64 1]) fs0) = true := by kernel_rfl
def zKw (x y z : Int) : Bool := (decide (x = 46) && decide (y = 46) && decide (z = 0)) || (decide (x = 45) && decide (y = 30) && decide (z = 1))
theorem zOx {x y z : Int} (h : zKw x y z = true) (w : World) (hpos : 0 < w.heap.size) : Calls Try.prog 27 #[.int .i64 x, .int .i64 y, .int .i64 z] w fun e w' => e = .returned (.bool true) ∧ Below w.heap.size w w' := by
 simp only [zKw, Bool.or_eq_true, Bool.and_eq_true, decide_eq_true_eq] at h
 rcases h with ⟨⟨rfl, rfl⟩, rfl⟩ | ⟨⟨rfl, rfl⟩, rfl⟩
 ·exact zEr rfl (zKs mixed [] 1000000 _ _) fits_a w hpos
 ·exact zEr rfl (zKs mixed [] 1000000 _ _) fits_b w hpos
def ct_fits : Ct Try.prog 0 where
 f := 27
 res l H n := match l with | [.int .i64 x, .int .i64 y, .int .i64 z] => bif zKw x y z then .ret (.bool true) H n [] else .bad "fits" [] | _ => .bad "fits" []
 ok l H n := by
  split
  ·rename_i x y z
   cases h : zKw x y z with
   | false => trivial
   | true => exact zEq (fun w hp => zOx h w hp) rfl rfl H n
  ·trivial
 ck l H n K := match l with | [.int .i64 x, .int .i64 y, .int .i64 z] => zKw x y z = true ∧ K (.ret (.bool true) H n []) | _ => False
 imp l H n K h := by
  split at h
  ·obtain ⟨h1, h2⟩ := h
   simp only [h1, cond_true]; exact h2
  ·exact h.elim
theorem zKm : zDh (evT Try.prog 0 [ct_fits] 1000000 (.call 17 []) fs0) = true := by kernel_rfl
theorem zJn (w : World) (hpos : 0 < w.heap.size) : Calls Try.prog 17 #[] w fun e w' => e = .returned (.bool true) ∧ Below w.heap.size w w' := evT_true mixed [ct_fits] 1000000 _ zKm w hpos
end Go.Proofs.Ytmhoookhpcfagaa
