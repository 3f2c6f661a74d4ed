/- DERIVED. Texts put together: Mix, Ints, O1, O2, Pick. -/
import Derived.Test.YtpdeidlkeplegaaProg
import Derived.Test.YtpdeidlkeplegaaZ12
set_option maxRecDepth 1000000
set_option maxHeartbeats 32000000
namespace Go.Proofs.Ytpdeidlkeplegaa
open Go Go.RowKit
theorem mixed : Try.prog.follows .mixedOrders = true := by kernel_rfl
end Go.Proofs.Ytpdeidlkeplegaa
namespace Go.Proofs.Ytpdeidlkeplegaa
open Go Go.RowKit
def Ct.int1 (f : FuncId) (out : Int → Int) (ok : ∀ x, ∃ H m wr, FnS Try.prog 0 f [.int .i64 x] .e 0 (.ret (.int .i64 (out x)) H m wr)) : Ct Try.prog 0 where
 f := f
 res l H n := match l with | [.int .i64 x] => .ret (.int .i64 (out x)) H n [] | _ => .bad "arguments" []
 ok l H n := by
  split
  ·rename_i x
   obtain ⟨_, _, _, h⟩ := ok x
   exact zFo h rfl rfl H n
  ·trivial
 ck l H n K := match l with | [.int .i64 x] => K (.ret (.int .i64 (out x)) H n []) | _ => False
 imp l H n K h := by
  split at h
  ·exact h
  ·exact h.elim
def Ct.int2 (f : FuncId) (out : Int → Int → Int) (ok : ∀ x y, ∃ H m wr, FnS Try.prog 0 f [.int .i64 x, .int .i64 y] .e 0 (.ret (.int .i64 (out x y)) H m wr)) : Ct Try.prog 0 where
 f := f
 res l H n := match l with | [.int .i64 x, .int .i64 y] => .ret (.int .i64 (out x y)) H n [] | _ => .bad "arguments" []
 ok l H n := by
  split
  ·rename_i x y
   obtain ⟨_, _, _, h⟩ := ok x y
   exact zFo h rfl rfl H n
  ·trivial
 ck l H n K := match l with | [.int .i64 x, .int .i64 y] => K (.ret (.int .i64 (out x y)) H n []) | _ => False
 imp l H n K h := by
  split at h
  ·exact h
  ·exact h.elim
def Ct.yes (f : FuncId) (ok : ∀ w : World, 0 < w.heap.size → Calls Try.prog f #[] w fun e w' => e = .returned (.bool true) ∧ Below w.heap.size w w') : Ct Try.prog 0 where
 f := f
 res l H n := match l with | [] => .ret (.bool true) H n [] | _ => .bad "arguments" []
 ok l H n := by
  split
  ·exact zLp ok rfl rfl H n
  ·trivial
 ck l H n K := match l with | [] => K (.ret (.bool true) H n []) | _ => False
 imp l H n K h := by
  split at h
  ·exact h
  ·exact h.elim
end Go.Proofs.Ytpdeidlkeplegaa
namespace Go.Proofs.Ytpdeidlkeplegaa
open Go Go.RowKit
abbrev Bl := List UInt8
def byV (b : UInt8) : Value := .int .u8 (b.toNat : Int)
structure RdB where
 b : Nat
 o : Nat
 n : Nat
 c : Nat
 l : Bl
def RdB.sl (x : RdB) : Value := .slice (some ⟨x.b, x.o, none⟩) x.n x.c
def RdB.at (x : RdB) (H : Tr AObj) : Prop := seesB H x.b 5 1 (x.l.map byV) ∧ x.o + x.n ≤ x.l.length
theorem map_byV {a b : Bl} (h : a.map byV = b.map byV) : a = b := by
 refine List.map_inj_right (fun x y e => ?_) |>.1 h
 simp only [byV, Value.int.injEq, true_and] at e
 exact UInt8.toNat_inj.1 (by omega)
theorem RdB.uniq {x y : RdB} {H : Tr AObj} (h : x.sl = y.sl) (hx : x.at H) (hy : y.at H) : x = y := by
 obtain ⟨b, o, n, c, l⟩ := x
 obtain ⟨b', o', n', c', l'⟩ := y
 simp only [RdB.sl, Value.slice.injEq, Option.some.injEq, Addr.mk.injEq, and_true] at h
 obtain ⟨⟨rfl, rfl⟩, rfl, rfl⟩ := h
 rw [show l = l' from map_byV (seesB.uniq hx.1 hy.1)]
end Go.Proofs.Ytpdeidlkeplegaa
namespace Go.Proofs.Ytpdeidlkeplegaa
open Go Go.RowKit
end Go.Proofs.Ytpdeidlkeplegaa
namespace Go.Proofs.Ytpdeidlkeplegaa
open Go Go.RowKit
def pickI (x n : Int) : Int := if n < 1 then 0 else if x.tmod n < 0 then IntKind.i64.wrap (x.tmod n + n) else x.tmod n
noncomputable def tbN : Tb Try.prog 0 := tbOf mixed []
theorem pick_fn (x y : Int) : ∃ r, FnS Try.prog 0 9 [.int .i64 x, .int .i64 y] .e 0 r ∧ ∃ H m wr, r = .ret (.int .i64 (pickI x y)) H m wr := by
 refine zCv mixed tbN [] Try.func9 (c := bodyOf Try.f9) (by kernel_rfl) ?_
 refine ifK (fun h => ?_) (fun h => ?_)
 ·have h := of_decide_eq_true h
  exact ⟨_, _, _, by unfold pickI; rw [if_pos h]; rfl⟩
 ·have h := of_decide_eq_false h
  refine ifK (fun h0 => by have : y ≠ 0 := by omega
                           simp [this] at h0) (fun _ => ?_)
  refine ifK (fun h2 => ?_) (fun h2 => ?_)
  ·have h2 := of_decide_eq_true h2
   exact ⟨_, _, _, by unfold pickI; rw [if_neg h, if_pos h2]; rfl⟩
  ·have h2 := of_decide_eq_false h2
   exact ⟨_, _, _, by unfold pickI; rw [if_neg h, if_neg h2]; rfl⟩
def ct_pick : Ct Try.prog 0 := Ct.int2 9 pickI (fun x y => by obtain ⟨r, h, H, m, wr, rfl⟩ := pick_fn x y; exact ⟨H, m, wr, h⟩)
end Go.Proofs.Ytpdeidlkeplegaa
