/- DERIVED. Texts put together: Mix, Ints, O1, O2, Aw25. -/
import Derived.Test.YtpigcnpigebfnaaProg
import Derived.Test.YtpigcnpigebfnaaZ12
set_option maxRecDepth 1000000
set_option maxHeartbeats 32000000
namespace Go.Proofs.Ytpigcnpigebfnaa
open Go Go.RowKit
theorem mixed : Try.prog.follows .mixedOrders = true := by kernel_rfl
end Go.Proofs.Ytpigcnpigebfnaa
namespace Go.Proofs.Ytpigcnpigebfnaa
open Go Go.RowKit
def Ct.int1 (f : FuncId) (out : Int → Int) (ok : ∀ x, ∃ H m wr, FnS Try.prog 0 f [.int .i64 x] .e 0 (.ret (.int .i64 (out x)) H m wr)) : Ct Try.prog 0 where
 f := f
 res l H n := match l with | [.int .i64 x] => .ret (.int .i64 (out x)) H n [] | _ => .bad "arguments" []
 ok l H n := by
  split
  ·rename_i x
   obtain ⟨_, _, _, h⟩ := ok x
   exact zLg h rfl rfl H n
  ·trivial
 ck l H n K := match l with | [.int .i64 x] => K (.ret (.int .i64 (out x)) H n []) | _ => False
 imp l H n K h := by
  split at h
  ·exact h
  ·exact h.elim
def Ct.yes (f : FuncId) (ok : ∀ w : World, 0 < w.heap.size → Calls Try.prog f #[] w fun e w' => e = .returned (.bool true) ∧ Below w.heap.size w w') : Ct Try.prog 0 where
 f := f
 res l H n := match l with | [] => .ret (.bool true) H n [] | _ => .bad "arguments" []
 ok l H n := by
  split
  ·exact zIo ok rfl rfl H n
  ·trivial
 ck l H n K := match l with | [] => K (.ret (.bool true) H n []) | _ => False
 imp l H n K h := by
  split at h
  ·exact h
  ·exact h.elim
end Go.Proofs.Ytpigcnpigebfnaa
namespace Go.Proofs.Ytpigcnpigebfnaa
open Go Go.RowKit
end Go.Proofs.Ytpigcnpigebfnaa
namespace Go.Proofs.Ytpigcnpigebfnaa
open Go Go.RowKit
end Go.Proofs.Ytpigcnpigebfnaa
namespace Go.Proofs.Ytpigcnpigebfnaa
open Go Go.RowKit
theorem zJr : zJe (evT Try.prog 0 ([] : List (Ct Try.prog 0)) 1000000 (.call 21 []) fs0) = true := by kernel_rfl
theorem zIn (w : World) (hpos : 0 < w.heap.size) : Calls Try.prog 21 #[] w fun e w' => e = .returned (.bool true) ∧ Below w.heap.size w w' := evT_true mixed [] 1000000 _ zJr w hpos
end Go.Proofs.Ytpigcnpigebfnaa
