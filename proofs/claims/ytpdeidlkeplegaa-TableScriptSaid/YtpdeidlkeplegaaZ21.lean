/- DERIVED. Texts put together: N1, D1, D2, D3, D4, D5, D5b, D6, N2, E1, E2, E3, E4P, F1, F2, F3, F4P, F5, N3, R1, R2, R3, R4, Ms1, Ms2, Ms3. -/
import Derived.Test.YtpdeidlkeplegaaZ12
import Derived.Test.YtpdeidlkeplegaaZ13
import Derived.Test.YtpdeidlkeplegaaZ20
set_option maxRecDepth 1000000
set_option maxHeartbeats 32000000
namespace Go.Proofs.Ytpdeidlkeplegaa
open Go Go.RowKit
def bs (s : ByteArray) : Bs := s.data.toList
end Go.Proofs.Ytpdeidlkeplegaa
namespace Go.Proofs.Ytpdeidlkeplegaa
open Go Go.RowKit
theorem wrapN {x : Int} (h1 : 0 ≤ x) (h2 : x < 9223372036854775808) : IntKind.i64.wrap x = x := zRn (by omega) h2
end Go.Proofs.Ytpdeidlkeplegaa
namespace Go.Proofs.Ytpdeidlkeplegaa
open Go Go.RowKit
def part (n : Int) (name rest : Bool) : List Value := [.int .i64 n, .bool name, .bool rest]
end Go.Proofs.Ytpdeidlkeplegaa
namespace Go.Proofs.Ytpdeidlkeplegaa
open Go Go.RowKit
end Go.Proofs.Ytpdeidlkeplegaa
namespace Go.Proofs.Ytpdeidlkeplegaa
open Go Go.RowKit
end Go.Proofs.Ytpdeidlkeplegaa
namespace Go.Proofs.Ytpdeidlkeplegaa
open Go Go.RowKit
inductive Pt where
 | nm
 | rest
 | sz (k : Nat)
def Pt.cell : Pt → List Value
 | .nm => part 0 true false
 | .rest => part 0 false true
 | .sz k => part k false false
end Go.Proofs.Ytpdeidlkeplegaa
namespace Go.Proofs.Ytpdeidlkeplegaa
open Go Go.RowKit
end Go.Proofs.Ytpdeidlkeplegaa
namespace Go.Proofs.Ytpdeidlkeplegaa
open Go Go.RowKit
end Go.Proofs.Ytpdeidlkeplegaa
namespace Go.Proofs.Ytpdeidlkeplegaa
open Go Go.RowKit
end Go.Proofs.Ytpdeidlkeplegaa
namespace Go.Proofs.Ytpdeidlkeplegaa
open Go Go.RowKit
end Go.Proofs.Ytpdeidlkeplegaa
namespace Go.Proofs.Ytpdeidlkeplegaa
open Go Go.RowKit
end Go.Proofs.Ytpdeidlkeplegaa
namespace Go.Proofs.Ytpdeidlkeplegaa
open Go Go.RowKit
end Go.Proofs.Ytpdeidlkeplegaa
namespace Go.Proofs.Ytpdeidlkeplegaa
open Go Go.RowKit
end Go.Proofs.Ytpdeidlkeplegaa
namespace Go.Proofs.Ytpdeidlkeplegaa
open Go Go.RowKit
end Go.Proofs.Ytpdeidlkeplegaa
namespace Go.Proofs.Ytpdeidlkeplegaa
open Go Go.RowKit
end Go.Proofs.Ytpdeidlkeplegaa
namespace Go.Proofs.Ytpdeidlkeplegaa
open Go Go.RowKit
end Go.Proofs.Ytpdeidlkeplegaa
namespace Go.Proofs.Ytpdeidlkeplegaa
open Go Go.RowKit
end Go.Proofs.Ytpdeidlkeplegaa
namespace Go.Proofs.Ytpdeidlkeplegaa
open Go Go.RowKit
def zs (x : Int × Bs) : Value := str x.2
end Go.Proofs.Ytpdeidlkeplegaa
namespace Go.Proofs.Ytpdeidlkeplegaa
open Go Go.RowKit
end Go.Proofs.Ytpdeidlkeplegaa
namespace Go.Proofs.Ytpdeidlkeplegaa
open Go Go.RowKit
def Ct.sh {X : Type} (f : FuncId) (mt : List Value → Option X) (args : X → List Value) (hm : ∀ l x, mt l = some x → l = args x) (pre : X → Bool) (out : X → Value) (ha : ∀ x, plainL (args x) = true) (hp : ∀ x, plainV 8 (out x) = true) (ok : ∀ x, pre x = true → ∃ H m wr, FnS Try.prog 0 f (args x) .e 0 (.ret (out x) H m wr)) : Ct Try.prog 0 where
 f := f
 res l H n := match mt l with | some x => bif pre x then .ret (out x) H n [] else .bad "not such" [] | none => .bad "arguments" []
 ok l H n := by
  cases h : mt l with
  | none => trivial
  | some x =>
   cases hx : pre x with
   | false => simp only [hx]; trivial
   | true =>
    simp only [hx, cond_true]
    rw [hm l x h]
    obtain ⟨_, _, _, hF⟩ := ok x hx
    exact zFo hF (ha x) (hp x) H n
 ck l H n K := match mt l with | some x => pre x = true ∧ K (.ret (out x) H n []) | none => False
 imp l H n K h := by
  cases hm : mt l with
  | none => rw [hm] at h; exact h.elim
  | some x =>
   rw [hm] at h
   obtain ⟨h1, h2⟩ := h
   simp only [h1, cond_true]; exact h2
structure RcX where
 n : ByteArray
 t : Int
 c : Int
 ttl : Int
 d : ByteArray
def RcX.v (x : RcX) : Value := .agg #[.string x.n, .int .i64 x.t, .int .i64 x.c, .int .i64 x.ttl, .string x.d]
def RcX.ok (x : RcX) : Bool := x.n.data.size.ble 100000000 && x.d.data.size.ble 100000000
end Go.Proofs.Ytpdeidlkeplegaa
namespace Go.Proofs.Ytpdeidlkeplegaa
open Go Go.RowKit
end Go.Proofs.Ytpdeidlkeplegaa
namespace Go.Proofs.Ytpdeidlkeplegaa
open Go Go.RowKit
def RcX.g (x : RcX) : List Value := [.string x.n, .int .i64 x.t, .int .i64 x.c, .int .i64 x.ttl, .string x.d]
end Go.Proofs.Ytpdeidlkeplegaa
namespace Go.Proofs.Ytpdeidlkeplegaa
open Go Go.RowKit
end Go.Proofs.Ytpdeidlkeplegaa
namespace Go.Proofs.Ytpdeidlkeplegaa
open Go Go.RowKit
deriving instance DecidableEq for RcX
structure QuX where
 n : ByteArray
 t : Int
 c : Int
 deriving DecidableEq
def QuX.v (x : QuX) : Value := .agg #[.string x.n, .int .i64 x.t, .int .i64 x.c]
def QuX.g (x : QuX) : List Value := [.string x.n, .int .i64 x.t, .int .i64 x.c]
structure MsL where
 id : Int
 fl : Int
 q : RdL QuX
 an : RdL RcX
 ns : RdL RcX
 ar : RdL RcX
def MsL.v (m : MsL) : Value := .agg #[.int .i64 m.id, .int .i64 m.fl, m.q.sl, m.an.sl, m.ns.sl, m.ar.sl]
end Go.Proofs.Ytpdeidlkeplegaa
namespace Go.Proofs.Ytpdeidlkeplegaa
open Go Go.RowKit
end Go.Proofs.Ytpdeidlkeplegaa
namespace Go.Proofs.Ytpdeidlkeplegaa
open Go Go.RowKit
end Go.Proofs.Ytpdeidlkeplegaa
