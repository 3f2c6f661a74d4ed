/- DERIVED. Texts put together: Mix, Ints, O1, O2, O3, O5, O6, O7, O4, W1, O8, O9, Pick, Flags, Aw9. -/
import Derived.Test.YtknpgjeclmadkaaProg
import Derived.Test.YtknpgjeclmadkaaZ14
set_option maxRecDepth 1000000
set_option maxHeartbeats 32000000
namespace Go.Proofs.Ytknpgjeclmadkaa
open Go Go.RowKit
theorem mixed : Try.prog.follows .mixedOrders = true := by kernel_rfl
end Go.Proofs.Ytknpgjeclmadkaa
namespace Go.Proofs.Ytknpgjeclmadkaa
open Go Go.RowKit
def Ct.yes (f : FuncId) (ok : ∀ w : World, 0 < w.heap.size → Calls Try.prog f #[] w fun e w' => e = .returned (.bool true) ∧ Below w.heap.size w w') : Ct Try.prog 0 where
 f := f
 res l H n := match l with | [] => .ret (.bool true) H n [] | _ => .bad "arguments" []
 ok l H n := by
  split
  ·exact zKs ok rfl rfl H n
  ·trivial
 ck l H n K := match l with | [] => K (.ret (.bool true) H n []) | _ => False
 imp l H n K h := by
  split at h
  ·exact h
  ·exact h.elim
end Go.Proofs.Ytknpgjeclmadkaa
namespace Go.Proofs.Ytknpgjeclmadkaa
open Go Go.RowKit
abbrev Bl := List UInt8
def byV (b : UInt8) : Value := .int .u8 (b.toNat : Int)
theorem zCb (l : Bl) : plainL (l.map byV) = true := by simp [plainL, plainV, byV]
structure RdB where
 b : Nat
 o : Nat
 n : Nat
 c : Nat
 l : Bl
def RdB.sl (x : RdB) : Value := .slice (some ⟨x.b, x.o, none⟩) x.n x.c
def RdB.at (x : RdB) (H : Tr AObj) : Prop := seesB H x.b 5 1 (x.l.map byV) ∧ x.o + x.n ≤ x.l.length
theorem map_byV {a b : Bl} (h : a.map byV = b.map byV) : a = b := by
 refine List.map_inj_right (fun x y e => ?_) |>.1 h
 simp only [byV, Value.int.injEq, true_and] at e
 exact UInt8.toNat_inj.1 (by omega)
theorem RdB.uniq {x y : RdB} {H : Tr AObj} (h : x.sl = y.sl) (hx : x.at H) (hy : y.at H) : x = y := by
 obtain ⟨b, o, n, c, l⟩ := x
 obtain ⟨b', o', n', c', l'⟩ := y
 simp only [RdB.sl, Value.slice.injEq, Option.some.injEq, Addr.mk.injEq, and_true] at h
 obtain ⟨⟨rfl, rfl⟩, rfl, rfl⟩ := h
 rw [show l = l' from map_byV (seesB.uniq hx.1 hy.1)]
end Go.Proofs.Ytknpgjeclmadkaa
namespace Go.Proofs.Ytknpgjeclmadkaa
open Go Go.RowKit
theorem wrapM {x : Int} (h1 : 0 ≤ x) (h2 : x < 9223372036854775808) : IntKind.i64.wrap x = x := zQk (by omega) h2
def beN (l : Bl) : Nat := l.foldl (fun n c => n * 256 + c.toNat) 0
end Go.Proofs.Ytknpgjeclmadkaa
namespace Go.Proofs.Ytknpgjeclmadkaa
open Go Go.RowKit
end Go.Proofs.Ytknpgjeclmadkaa
namespace Go.Proofs.Ytknpgjeclmadkaa
open Go Go.RowKit
end Go.Proofs.Ytknpgjeclmadkaa
namespace Go.Proofs.Ytknpgjeclmadkaa
open Go Go.RowKit
end Go.Proofs.Ytknpgjeclmadkaa
namespace Go.Proofs.Ytknpgjeclmadkaa
open Go Go.RowKit
end Go.Proofs.Ytknpgjeclmadkaa
namespace Go.Proofs.Ytknpgjeclmadkaa
open Go Go.RowKit
end Go.Proofs.Ytknpgjeclmadkaa
namespace Go.Proofs.Ytknpgjeclmadkaa
open Go Go.RowKit
end Go.Proofs.Ytknpgjeclmadkaa
namespace Go.Proofs.Ytknpgjeclmadkaa
open Go Go.RowKit
end Go.Proofs.Ytknpgjeclmadkaa
namespace Go.Proofs.Ytknpgjeclmadkaa
open Go Go.RowKit
end Go.Proofs.Ytknpgjeclmadkaa
namespace Go.Proofs.Ytknpgjeclmadkaa
open Go Go.RowKit
end Go.Proofs.Ytknpgjeclmadkaa
namespace Go.Proofs.Ytknpgjeclmadkaa
open Go Go.RowKit
def b64 (x : Int) : BitVec 64 := BitVec.ofInt 64 x
def codeI (x : Int) : Int := IntKind.i64.wrap (b64 x &&& b64 15).toNat
theorem b64_nat {n : Nat} (h : n < 18446744073709551616) : (b64 (n : Int)).toNat = n := by
 unfold b64
 rw [BitVec.toNat_ofInt]
 omega
end Go.Proofs.Ytknpgjeclmadkaa
namespace Go.Proofs.Ytknpgjeclmadkaa
open Go Go.RowKit
theorem zNq : zLj (evT Try.prog 0 ([] : List (Ct Try.prog 0)) 1000000 (.call 20 []) fs0) = true := by kernel_rfl
theorem zLy (w : World) (hpos : 0 < w.heap.size) : Calls Try.prog 20 #[] w fun e w' => e = .returned (.bool true) ∧ Below w.heap.size w w' := evT_true mixed [] 1000000 _ zNq w hpos
end Go.Proofs.Ytknpgjeclmadkaa
