/- DERIVED. Texts put together: Mix, Ints, O1, O2, Kn22, Aw22. -/
import Derived.Test.YtblhnenhonfpnaaProg
import Derived.Test.YtblhnenhonfpnaaZ12
set_option maxRecDepth 1000000
set_option maxHeartbeats 32000000
namespace Go.Proofs.Ytblhnenhonfpnaa
open Go Go.RowKit
theorem mixed : Try.prog.follows .mixedOrders = true := by kernel_rfl
end Go.Proofs.Ytblhnenhonfpnaa
namespace Go.Proofs.Ytblhnenhonfpnaa
open Go Go.RowKit
def Ct.yes (f : FuncId) (ok : ∀ w : World, 0 < w.heap.size → Calls Try.prog f #[] w fun e w' => e = .returned (.bool true) ∧ Below w.heap.size w w') : Ct Try.prog 0 where
 f := f
 res l H n := match l with | [] => .ret (.bool true) H n [] | _ => .bad "arguments" []
 ok l H n := by
  split
  ·exact zFf ok rfl rfl H n
  ·trivial
 ck l H n K := match l with | [] => K (.ret (.bool true) H n []) | _ => False
 imp l H n K h := by
  split at h
  ·exact h
  ·exact h.elim
end Go.Proofs.Ytblhnenhonfpnaa
namespace Go.Proofs.Ytblhnenhonfpnaa
open Go Go.RowKit
abbrev Bl := List UInt8
def byV (b : UInt8) : Value := .int .u8 (b.toNat : Int)
structure RdB where
 b : Nat
 o : Nat
 n : Nat
 c : Nat
 l : Bl
def RdB.sl (x : RdB) : Value := .slice (some ⟨x.b, x.o, none⟩) x.n x.c
def RdB.at (x : RdB) (H : Tr AObj) : Prop := seesB H x.b 5 1 (x.l.map byV) ∧ x.o + x.n ≤ x.l.length
theorem map_byV {a b : Bl} (h : a.map byV = b.map byV) : a = b := by
 refine List.map_inj_right (fun x y e => ?_) |>.1 h
 simp only [byV, Value.int.injEq, true_and] at e
 exact UInt8.toNat_inj.1 (by omega)
theorem RdB.uniq {x y : RdB} {H : Tr AObj} (h : x.sl = y.sl) (hx : x.at H) (hy : y.at H) : x = y := by
 obtain ⟨b, o, n, c, l⟩ := x
 obtain ⟨b', o', n', c', l'⟩ := y
 simp only [RdB.sl, Value.slice.injEq, Option.some.injEq, Addr.mk.injEq, and_true] at h
 obtain ⟨⟨rfl, rfl⟩, rfl, rfl⟩ := h
 rw [show l = l' from map_byV (seesB.uniq hx.1 hy.1)]
end Go.Proofs.Ytblhnenhonfpnaa
namespace Go.Proofs.Ytblhnenhonfpnaa
open Go Go.RowKit
end Go.Proofs.Ytblhnenhonfpnaa
namespace Go.Proofs.Ytblhnenhonfpnaa
open Go Go.RowKit
theorem zMm : zLe (evT Try.prog 0 ([] : List (Ct Try.prog 0)) 1000000 (.call 6 []) fs0) = true := by kernel_rfl
theorem zLa (w : World) (hpos : 0 < w.heap.size) : Calls Try.prog 6 #[] w fun e w' => e = .returned (.bool true) ∧ Below w.heap.size w w' := evT_true mixed [] 1000000 _ zMm w hpos
end Go.Proofs.Ytblhnenhonfpnaa
namespace Go.Proofs.Ytblhnenhonfpnaa
open Go Go.RowKit
end Go.Proofs.Ytblhnenhonfpnaa
