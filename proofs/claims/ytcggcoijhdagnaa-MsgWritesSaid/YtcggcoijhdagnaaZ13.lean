/- DERIVED. Parts. -/
import Derived.Test.YtcggcoijhdagnaaProg
import Derived.Test.YtcggcoijhdagnaaZ12
set_option maxRecDepth 1000000
set_option maxHeartbeats 32000000
namespace Go.Proofs.Ytcggcoijhdagnaa
open Go Go.RowKit
theorem mixed : Try.prog.follows .mixedOrders = true := by kernel_rfl
abbrev Bl := List UInt8
def byV (b : UInt8) : Value := .int .u8 (b.toNat : Int)
theorem zAa (l : Bl) : plainL (l.map byV) = true := by simp [plainL, plainV, byV]
theorem zKm : (Try.prog.info? 5).map (·.size) = some 1 := by kernel_rfl
theorem wrapM {x : Int} (h1 : 0 <= x) (h2 : x < 9223372036854775808) : IntKind.i64.wrap x = x := zAp (by omega) h2
def Ct.int1 (f : FuncId) (out : Int -> Int) (ok : ∀ x, ∃ H m wr, FnS Try.prog 0 f [.int .i64 x] .e 0 (.ret (.int .i64 (out x)) H m wr)) : Ct Try.prog 0 where
 f := f
 res l H n := match l with | [.int .i64 x] => .ret (.int .i64 (out x)) H n [] | _ => .bad "arguments" []
 ok l H n := by
  split
  ·rename_i x
   obtain ⟨_, _, _, h⟩ := ok x
   exact zAx h rfl rfl H n
  trivial
 ck l H n K := match l with | [.int .i64 x] => K (.ret (.int .i64 (out x)) H n []) | _ => False
 imp l H n K h := by
  split at h
  ·exact h
  exact h.elim
def Ct.yes (f : FuncId) (ok : ∀ w : World, 0 < w.heap.size -> Calls Try.prog f #[] w fun e w' => e = .returned (.bool true) /\ Below w.heap.size w w') : Ct Try.prog 0 where
 f := f
 res l H n := match l with | [] => .ret (.bool true) H n [] | _ => .bad "arguments" []
 ok l H n := by
  split
  ·exact zHr ok rfl rfl H n
  trivial
 ck l H n K := match l with | [] => K (.ret (.bool true) H n []) | _ => False
 imp l H n K h := by
  split at h
  ·exact h
  exact h.elim
theorem zSd : zPa (evT Try.prog 0 ([] : List (Ct Try.prog 0)) 1000000 (.call 19 []) fs0) = true := by kernel_rfl
theorem zPr (w : World) (hpos : 0 < w.heap.size) : Calls Try.prog 19 #[] w fun e w' => e = .returned (.bool true) /\ Below w.heap.size w w' := evT_true mixed [] 1000000 _ zSd w hpos
def layU : Lay UInt8 where
 g b := [.int .u8 (b.toNat : Int)]
 k := 1
 t := 5
 len _ := rfl
 pos := Nat.one_pos
 plain _ := rfl
 inj x y h := by
  simp only [aQ, Value.int.injEq, true_and, and_true] at h
  exact UInt8.toNat_inj.1 (by omega)
theorem zQp (l : Bl) : l.flatMap layU.g = l.map byV := by
 induction l with
 | nil => rfl
 | cons b l ih => rw [List.flatMap_cons, ih]; rfl
theorem bytes_ty : TyIs Try.prog 5 1 1 (.int .u8 0) := zTy (by kernel_rfl)
end Go.Proofs.Ytcggcoijhdagnaa
