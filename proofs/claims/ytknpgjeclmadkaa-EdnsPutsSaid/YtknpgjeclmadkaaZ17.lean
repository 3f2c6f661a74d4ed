/- DERIVED. Texts put together: N1, D1, D2, D3, D4, D5, D5b, D6, N2, E1, E2, E3, E4P, F1, F2, F3, F4P, F5, N3, R1, R2, R3, R4, Ms1, Rf1, Rf3, Rf4, Ed1, Ed3, Tk1, Et1, Lt1, Et2, Op1, Et3, Str, Et4, Ms2, Ms3, R5, Ms4, Ms7, Ms8, Sp1, Cm1, Kp1, El1, No1, Rw1, Rw2, Ro1, Sn1, Pk1, Pk2, Pk3, Wr5, Rw3, Ov2, Ov3. -/
import Derived.LoopIn
import Derived.Test.YtknpgjeclmadkaaZ14
import Derived.Test.YtknpgjeclmadkaaZ15
import Derived.Test.YtknpgjeclmadkaaZ16
import Derived.Test.YtknpgjeclmadkaaZ2
set_option maxRecDepth 1000000
set_option maxHeartbeats 32000000
namespace Go.Proofs.Ytknpgjeclmadkaa
open Go Go.RowKit
def bs (s : ByteArray) : Bs := s.data.toList
end Go.Proofs.Ytknpgjeclmadkaa
namespace Go.Proofs.Ytknpgjeclmadkaa
open Go Go.RowKit
theorem wrapN {x : Int} (h1 : 0 ≤ x) (h2 : x < 9223372036854775808) : IntKind.i64.wrap x = x := zQk (by omega) h2
def txtF : Nat → Bs → Bool
 | 0, _ => false
 | _ + 1, [] => true
 | n + 1, c :: r => decide (c.toNat ≤ r.length) && txtF n (r.drop c.toNat)
def txt (l : Bs) : Bool := txtF (l.length + 1) l
def texts (l : Bs) : Bool := !l.isEmpty && txt l
end Go.Proofs.Ytknpgjeclmadkaa
namespace Go.Proofs.Ytknpgjeclmadkaa
open Go Go.RowKit
def part (n : Int) (name rest : Bool) : List Value := [.int .i64 n, .bool name, .bool rest]
end Go.Proofs.Ytknpgjeclmadkaa
namespace Go.Proofs.Ytknpgjeclmadkaa
open Go Go.RowKit
def zposF : Nat → Bs → Option Nat
 | 0, _ => none
 | _ + 1, [] => none
 | n + 1, c :: r => if c.toNat = 0 then some 0 else (zposF n (r.drop c.toNat)).map (· + (c.toNat + 1))
def zpos (l : Bs) : Option Nat := zposF (l.length + 1) l
def front (l : Bs) : Option Nat := match zpos l with | some k => if (labels (l.take (k + 1))).2 = 0 then some (k + 1) else none | none => none
end Go.Proofs.Ytknpgjeclmadkaa
namespace Go.Proofs.Ytknpgjeclmadkaa
open Go Go.RowKit
end Go.Proofs.Ytknpgjeclmadkaa
namespace Go.Proofs.Ytknpgjeclmadkaa
open Go Go.RowKit
inductive Pt where
 | nm
 | rest
 | sz (k : Nat)
def Pt.cell : Pt → List Value
 | .nm => part 0 true false
 | .rest => part 0 false true
 | .sz k => part k false false
def Pt.isName : Pt → Bool
 | .nm => true
 | _ => false
def Pt.cut (p : Pt) (l : Bs) : Option Nat :=
 match p with
 | .nm => front l
 | .rest => if texts l then some l.length else none
 | .sz k => if k ≤ l.length then some k else none
def cuts : List Pt → Bs → Option (List (Bs × Bool) × Bs)
 | [], l => some ([], l)
 | p :: ps, l => match p.cut l with
  | none => none
  | some n => (cuts ps (l.drop n)).map fun x => ((l.take n, p.isName) :: x.1, x.2)
end Go.Proofs.Ytknpgjeclmadkaa
namespace Go.Proofs.Ytknpgjeclmadkaa
open Go Go.RowKit
end Go.Proofs.Ytknpgjeclmadkaa
namespace Go.Proofs.Ytknpgjeclmadkaa
open Go Go.RowKit
end Go.Proofs.Ytknpgjeclmadkaa
namespace Go.Proofs.Ytknpgjeclmadkaa
open Go Go.RowKit
end Go.Proofs.Ytknpgjeclmadkaa
namespace Go.Proofs.Ytknpgjeclmadkaa
open Go Go.RowKit
def ptsT (t : Int) : Option (List Pt) :=
 bif t == 1 then some [.sz 4] else bif t == 28 then some [.sz 16] else bif t == 2 then some [.nm] else bif t == 5 then some [.nm] else bif t == 12 then some [.nm] else bif t == 15 then some [.sz 2, .nm]
 else bif t == 6 then some [.nm, .nm, .sz 20] else bif t == 16 then some [.rest] else none
end Go.Proofs.Ytknpgjeclmadkaa
namespace Go.Proofs.Ytknpgjeclmadkaa
open Go Go.RowKit
def outT (t : Int) (l : Bs) : Option (List (Bs × Bool) × Bs) := match ptsT t with | some ps => cuts ps l | none => none
def outP (t : Int) (l : Bs) : List (Bs × Bool) := match outT t l with | some x => x.1 | none => []
def outR (t : Int) (l : Bs) : Bs := match outT t l with | some x => x.2 | none => []
end Go.Proofs.Ytknpgjeclmadkaa
namespace Go.Proofs.Ytknpgjeclmadkaa
open Go Go.RowKit
def lowP (p : Bs × Bool) : Bs := if p.2 then lower p.1 else p.1
def lowerD (t : Int) (l : Bs) : Bs := bif (ptsT t).isSome then (bif (outT t l).isSome && (outR t l).isEmpty then (outP t l).flatMap lowP else l) else l
end Go.Proofs.Ytknpgjeclmadkaa
namespace Go.Proofs.Ytknpgjeclmadkaa
open Go Go.RowKit
end Go.Proofs.Ytknpgjeclmadkaa
namespace Go.Proofs.Ytknpgjeclmadkaa
open Go Go.RowKit
end Go.Proofs.Ytknpgjeclmadkaa
namespace Go.Proofs.Ytknpgjeclmadkaa
open Go Go.RowKit
inductive Pr where
 | nm
 | rest
 | all
 | sz (k : Nat)
def Pr.i : Pr → Int
 | .nm => -1
 | .rest => -2
 | .all => -3
 | .sz k => (k : Int)
def Pr.cut (p : Pr) (l : Bs) : Option Nat :=
 match p with
 | .nm => front l
 | .rest => if texts l then some l.length else none
 | .all => some l.length
 | .sz k => if k ≤ l.length then some k else none
end Go.Proofs.Ytknpgjeclmadkaa
namespace Go.Proofs.Ytknpgjeclmadkaa
open Go Go.RowKit
def Pt.pr : Pt → Pr
 | .nm => .nm
 | .rest => .rest
 | .sz k => .sz k
end Go.Proofs.Ytknpgjeclmadkaa
namespace Go.Proofs.Ytknpgjeclmadkaa
open Go Go.RowKit
def Pt.small : Pt → Bool
 | .nm => true
 | .rest => false
 | .sz k => k.ble 255
end Go.Proofs.Ytknpgjeclmadkaa
namespace Go.Proofs.Ytknpgjeclmadkaa
open Go Go.RowKit
def zs (x : Int × Bs) : Value := str x.2
end Go.Proofs.Ytknpgjeclmadkaa
namespace Go.Proofs.Ytknpgjeclmadkaa
open Go Go.RowKit
end Go.Proofs.Ytknpgjeclmadkaa
namespace Go.Proofs.Ytknpgjeclmadkaa
open Go Go.RowKit
def Ct.sh {X : Type} (f : FuncId) (mt : List Value → Option X) (args : X → List Value) (hm : ∀ l x, mt l = some x → l = args x) (pre : X → Bool) (out : X → Value) (ha : ∀ x, plainL (args x) = true) (hp : ∀ x, plainV 8 (out x) = true) (ok : ∀ x, pre x = true → ∃ H m wr, FnS Try.prog 0 f (args x) .e 0 (.ret (out x) H m wr)) : Ct Try.prog 0 where
 f := f
 res l H n := match mt l with | some x => bif pre x then .ret (out x) H n [] else .bad "not such" [] | none => .bad "arguments" []
 ok l H n := by
  cases h : mt l with
  | none => trivial
  | some x =>
   cases hx : pre x with
   | false => simp only [hx]; trivial
   | true =>
    simp only [hx, cond_true]
    rw [hm l x h]
    obtain ⟨_, _, _, hF⟩ := ok x hx
    exact zDf hF (ha x) (hp x) H n
 ck l H n K := match mt l with | some x => pre x = true ∧ K (.ret (out x) H n []) | none => False
 imp l H n K h := by
  cases hm : mt l with
  | none => rw [hm] at h; exact h.elim
  | some x =>
   rw [hm] at h
   obtain ⟨h1, h2⟩ := h
   simp only [h1, cond_true]; exact h2
def Ct.i2 (f : FuncId) (out : Int → Int → Value) (hp : ∀ x y, plainV 8 (out x y) = true) (ok : ∀ x y, ∃ H m wr, FnS Try.prog 0 f [.int .i64 x, .int .i64 y] .e 0 (.ret (out x y) H m wr)) : Ct Try.prog 0 where
 f := f
 res l H n := match l with | [.int .i64 x, .int .i64 y] => .ret (out x y) H n [] | _ => .bad "arguments" []
 ok l H n := by
  split
  ·rename_i x y
   obtain ⟨_, _, _, h⟩ := ok x y
   exact zDf h rfl (hp x y) H n
  ·trivial
 ck l H n K := match l with | [.int .i64 x, .int .i64 y] => K (.ret (out x y) H n []) | _ => False
 imp l H n K h := by
  split at h
  ·exact h
  ·exact h.elim
def Ct.i1 (f : FuncId) (out : Int → Value) (hp : ∀ x, plainV 8 (out x) = true) (ok : ∀ x, ∃ H m wr, FnS Try.prog 0 f [.int .i64 x] .e 0 (.ret (out x) H m wr)) : Ct Try.prog 0 where
 f := f
 res l H n := match l with | [.int .i64 x] => .ret (out x) H n [] | _ => .bad "arguments" []
 ok l H n := by
  split
  ·rename_i x
   obtain ⟨_, _, _, h⟩ := ok x
   exact zDf h rfl (hp x) H n
  ·trivial
 ck l H n K := match l with | [.int .i64 x] => K (.ret (out x) H n []) | _ => False
 imp l H n K h := by
  split at h
  ·exact h
  ·exact h.elim
structure RcX where
 n : ByteArray
 t : Int
 c : Int
 ttl : Int
 d : ByteArray
def RcX.v (x : RcX) : Value := .agg #[.string x.n, .int .i64 x.t, .int .i64 x.c, .int .i64 x.ttl, .string x.d]
def RcX.ok (x : RcX) : Bool := x.n.data.size.ble 100000000 && x.d.data.size.ble 100000000
end Go.Proofs.Ytknpgjeclmadkaa
namespace Go.Proofs.Ytknpgjeclmadkaa
open Go Go.RowKit
def RcX.low (x : RcX) : RcX := ⟨⟨(lower (bs x.n)).toArray⟩, x.t, x.c, 0, ⟨(lowerD x.t (bs x.d)).toArray⟩⟩
end Go.Proofs.Ytknpgjeclmadkaa
namespace Go.Proofs.Ytknpgjeclmadkaa
open Go Go.RowKit
def RcX.g (x : RcX) : List Value := [.string x.n, .int .i64 x.t, .int .i64 x.c, .int .i64 x.ttl, .string x.d]
def layR : Lay RcX where
 g := RcX.g
 k := 5
 t := 48
 len _ := rfl
 pos := by decide
 plain _ := rfl
 inj x y h := by
  obtain ⟨n, t, c, l, d⟩ := x
  obtain ⟨n', t', c', l', d'⟩ := y
  simp only [RcX.g, List.cons.injEq, Value.string.injEq, Value.int.injEq, true_and, and_true] at h
  obtain ⟨rfl, rfl, rfl, rfl, rfl⟩ := h; rfl
def bigR (n : Int) (x : RcX) : Bool := decide ((x.n.data.size : Int) > n) || decide ((x.d.data.size : Int) > n)
end Go.Proofs.Ytknpgjeclmadkaa
namespace Go.Proofs.Ytknpgjeclmadkaa
open Go Go.RowKit
end Go.Proofs.Ytknpgjeclmadkaa
namespace Go.Proofs.Ytknpgjeclmadkaa
open Go Go.RowKit
deriving instance DecidableEq for RcX
structure QuX where
 n : ByteArray
 t : Int
 c : Int
 deriving DecidableEq
def QuX.v (x : QuX) : Value := .agg #[.string x.n, .int .i64 x.t, .int .i64 x.c]
def QuX.g (x : QuX) : List Value := [.string x.n, .int .i64 x.t, .int .i64 x.c]
def layQ : Lay QuX where
 g := QuX.g
 k := 3
 t := 57
 len _ := rfl
 pos := by decide
 plain _ := rfl
 inj x y h := by
  obtain ⟨n, t, c⟩ := x
  obtain ⟨n', t', c'⟩ := y
  simp only [QuX.g, List.cons.injEq, Value.string.injEq, Value.int.injEq, true_and, and_true] at h
  obtain ⟨rfl, rfl, rfl⟩ := h; rfl
structure MsL where
 id : Int
 fl : Int
 q : RdL QuX
 an : RdL RcX
 ns : RdL RcX
 ar : RdL RcX
def MsL.v (m : MsL) : Value := .agg #[.int .i64 m.id, .int .i64 m.fl, m.q.sl, m.an.sl, m.ns.sl, m.ar.sl]
def MsL.at (m : MsL) (H : Tr AObj) : Prop := m.q.at layQ H ∧ m.an.at layR H ∧ m.ns.at layR H ∧ m.ar.at layR H
def MsL.heap (m : MsL) : Tr AObj := Go.Proofs.Ytknpgjeclmadkaa.heap 3 [(0, .win (m.q.cells layQ) layQ.k), (1, .win (m.an.cells layR) layR.k), (2, .win (m.ns.cells layR) layR.k), (3, .win (m.ar.cells layR) layR.k)]
def MsL.own (m : MsL) : MsL := ⟨m.id, m.fl, { m.q with b := 0 }, { m.an with b := 1 }, { m.ns with b := 2 }, { m.ar with b := 3 }⟩
theorem MsL.uniq {m m' : MsL} {H : Tr AObj} (h : m.v = m'.v) (h1 : m.at H) (h2 : m'.at H) : m = m' := by
 obtain ⟨id, fl, q, an, ns, ar⟩ := m
 obtain ⟨id', fl', q', an', ns', ar'⟩ := m'
 simp only [MsL.v, Value.agg.injEq, Array.mk.injEq, List.cons.injEq, Value.int.injEq, true_and, and_true] at h
 obtain ⟨rfl, rfl, a1, a2, a3, a4⟩ := h
 obtain ⟨b1, b2, b3, b4⟩ := h1
 obtain ⟨c1, c2, c3, c4⟩ := h2
 rw [RdL.uniq a1 b1 c1, RdL.uniq a2 b2 c2, RdL.uniq a3 b3 c3, RdL.uniq a4 b4 c4]
theorem zNc {α : Type} {l m : List α} {i : Nat} (h1 : i < l.length) (h2 : i < m.length) (h : l.take i = m.take i) (he : l[i] = m[i]) : l.take (i + 1) = m.take (i + 1) := by
 rw [List.take_succ_eq_append_getElem h1, List.take_succ_eq_append_getElem h2, h, he]
theorem zMn {α : Type} {l m : List α} {i : Nat} (h1 : i < l.length) (h2 : i < m.length) (e : l = m) : l[i] = m[i] := by subst e; rfl
theorem zPb {a b : ByteArray} (h : a.data.toList = b.data.toList) : a = b := ByteArray.ext (Array.toList_inj.1 h)
theorem struct_q : structOk Try.prog 57 = true := by kernel_rfl
theorem struct_r : structOk Try.prog 48 = true := by kernel_rfl
def bigQ (y : Int) (x : QuX) : Bool := decide ((x.n.data.size : Int) > y)
end Go.Proofs.Ytknpgjeclmadkaa
namespace Go.Proofs.Ytknpgjeclmadkaa
open Go Go.RowKit Go.Shelf
attribute [local go_sem] Oper.semAt_some
theorem eall_in (n : Nat) (lv bn : Nat) (l : List RcX) (J : Nat → World → Prop) (Jx : World → Prop) (p : Option Addr) (c : Nat) (hll : l.length ≤ 4611686018427387903)
  (hRp : l ≠ [] → ∃ b o, p = some ⟨b, o, none⟩ ∧ ∀ i W, J i W → ∀ k (_ : k < l.length) j u, l[k].g[j]? = some u → W.cell? ⟨b, o + k * 5 + j, none⟩ = some u)
  (hJ : ∀ i W W', J i W → W.grownBy W' none → J i W')
  (hS : ∀ i (h : i < l.length) W, J i W → l[i].t ≠ 41 → J (i + 1) W)
  (hY : ∀ i (h : i < l.length) W, J i W → l[i].t = 41 → YieldAt Fence.wide (n - 1) Try.prog lv #[.int .i64 (i : Int), .agg #[.string l[i].n, .int .i64 l[i].t, .int .i64 l[i].c, .int .i64 l[i].ttl, .string l[i].d]] W fun e W' =>
   (e = .returned (.bool true) ∧ J (i + 1) W') ∨ (e = .returned (.bool false) ∧ Jx W'))
  (W : World) (hv : W.cell? ⟨bn, 0, none⟩ = some (.slice p l.length c)) (h0 : J 0 W) : CallsIn Fence.wide n Try.prog 61 (#[.func (.yield lv) #[] #[]] ++ #[.pointer (some ⟨bn, 0, none⟩)]) W fun e W' => (∃ v, e = .returned v) ∧ (J l.length W' ∨ Jx W') := by
 refine callsIn_of_wp Try.func61 rfl trivial ?_ rfl
 simp only [Try.ntmps61, List.size_toArray, List.length_cons, List.length_nil, Nat.reduceAdd, Nat.reduceSub, Array.replicate_succ, Array.replicate_zero, List.push_toArray, List.append_toArray, List.nil_append, List.cons_append]
 gi_wp2
 gi_loopw [7] (fun i wr => ∃ k : Nat, k ≤ l.length ∧ i = .int .i64 k ∧ J k wr) (fun i _ => l.length - (intOf i).toNat)
 case atStart => exact ⟨0, Nat.zero_le _, rfl, h0⟩
 case round =>
  obtain ⟨k, hk, rfl, hJk⟩ := hrel
  by_cases hlt : k < l.length
  ·obtain ⟨b, o, rfl, hR⟩ := hRp (fun e => by rw [e] at hlt; exact absurd hlt (by simp))
   have hc := fun j u h => hR k wr hJk k hlt j u h
   have hSk := hS k hlt
   have hYk := hY k hlt
   generalize l[k] = x at hc hSk hYk
   obtain ⟨xn, xt, xc, xw, xd⟩ := x
   have c0 := hc 0 _ rfl
   have c1 := hc 1 _ rfl
   have c2 := hc 2 _ rfl
   have c3 := hc 3 _ rfl
   have c4 := hc 4 _ rfl
   simp only [Nat.add_zero] at c0
   clear hc hR hRp hS hY
   by_cases hx : xt = 41
   ·have hq : (xt == 41) = true := by simp [hx]
    have HX := Lib.hid hx
    clear hx
    have hJa := fun o => hJ k wr (wr.alloc o) hJk (World.grownBy_alloc wr o none)
    gi_wp2
    obtain ⟨fn, tmps, assign, body, hy, hRd⟩ := hYk _ (hJa (.cells #[.string xn, .int .i64 xt, .int .i64 xc, .int .i64 xw, .string xd] 48)) HX.out
    rw [hy]
    gi_wp2
    refine ⟨(fun h => by cases h), hRd.mono ?_⟩
    rintro e W3 (⟨rfl, hr⟩ | ⟨rfl, hr⟩)
    ·gi_wp2
     go_roundw
     case rel => exact ⟨k + 1, by omega, by go_num, hr⟩
     case measure => simp [intOf]; omega
    ·gi_wp2
     refine bodyPost_ret (results_none rfl _ _ _) rfl ?_
     exact ⟨⟨_, rfl⟩, .inr hr⟩
   ·have hq : (xt == 41) = false := by simp [hx]
    have HX := Lib.hid hx
    clear hx
    gi_wp2
    refine ⟨nofun, ?_⟩
    gi_wp2
    go_roundw
    case rel => exact ⟨k + 1, by omega, by go_num, hSk _ (hJ k wr _ hJk (World.grownBy_alloc wr _ none)) HX.out⟩
    case measure => simp [intOf]; omega
  ·gi_wp2
   refine bodyPost_end (results_none rfl _ _ _) rfl ⟨⟨_, rfl⟩, .inl ?_⟩
   rw [show l.length = k by omega]; exact hJk
end Go.Proofs.Ytknpgjeclmadkaa
namespace Go.Proofs.Ytknpgjeclmadkaa
open Go Go.RowKit
theorem KpV.mono {k k' : Nat} {v : Value} (h : KpV k v) (hk : k ≤ k') : KpV k' v := fun E E' x ha => h E E' x ⟨fun i hi => ha.nm i (by omega), ha.fz⟩
theorem zPy {k : Nat} : KpV k undef := KpV.plain (n := 2) rfl
theorem zQh {k d : Nat} {lv : List (Nat × Value)} {g : Nat → Option Value} (h1 : ∀ p ∈ lv, KpV k p.2) (h2 : ∀ t, KpV k ((g t).getD undef)) (t : Nat) : KpV k (((slots d lv g).get t).getD undef) := by
 unfold slots
 rw [zEf]
 split
 ·rcases zGo (0 + 1 * t) (g (0 + 1 * t)) lv with ⟨v, hv, e⟩ | e
  ·rw [e]; exact h1 _ hv
  ·rw [e]; exact h2 _
 ·exact zPy
theorem rc_blur {P : Program} {g0 k0 nt d : Nat} {rd : Option Nat} {lv : List (Nat × Value)} {f : Nat → Option Value} {H : Tr AObj} {n : Nat} {W : List Nat} {df : List ADf} (hk : k0 ≤ n) :
  ∃ g, (∀ t, KpV 0 ((g t).getD undef)) ∧ RcM P g0 k0 nt rd ⟨slots d lv f, H, n, W, df⟩ ⟨slots d lv g, H, n, W, df⟩ := by
 refine ⟨fun t => (f t).map fun v => Classical.choose (zGh v), fun t => ?_, hk, .refl _ _, fun E a w hf => ⟨E, ⟨⟨hf.tr.1, fun t => ?_⟩, hf.hr, hf.lw, hf.df, hf.gl, hf.rd, hf.top⟩, .refl _ _ _ _⟩⟩
 ·show KpV 0 (((f t).map fun v => Classical.choose (zGh v)).getD undef)
  cases f t with
  | none => exact zPy
  | some v => exact (Classical.choose_spec (zGh v)).1
 ·have h : VR E (((slots d lv f).get t).getD undef) (a.tmps.getD t undef) := hf.tr.2 t
  show VR E (((slots d lv _).get t).getD undef) (a.tmps.getD t undef)
  generalize a.tmps.getD t undef = z at h ⊢
  unfold slots at h ⊢
  rw [zEf] at h ⊢
  split at h
  ·rename_i ht
   rw [if_pos ht]
   generalize 0 + 1 * t = j at h ⊢
   clear ht hf
   induction lv with
   | nil =>
    simp only [lkp] at h ⊢
    cases hv : f j with
    | none => rw [hv] at h; exact h
    | some v => rw [hv] at h; exact (Classical.choose_spec (zGh v)).2 E z h
   | cons p l ih =>
    obtain ⟨i, v⟩ := p
    simp only [lkp] at h ⊢
    cases hb : i.beq j with
    | true => rw [hb] at h; exact h
    | false => rw [hb] at h; exact ih h
  ·rename_i ht
   rw [if_neg ht]; exact h
def recV (x : RcX) : Value := .agg #[.string x.n, .int .i64 x.t, .int .i64 x.c, .int .i64 x.ttl, .string x.d]
def RoundS (P : Program) (k1 nt lp : Nat) (asg body : Code) (T0 : Tr Value) (ps : Array Tmp) (V : List Nat) (i : Nat) (x : RcX) (H : Tr AObj) (n : Nat) (ex : Ex) (H' : Tr AObj) (n' : Nat) : Prop :=
 ∃ T, zipSet nt (ps.toList.zip [.int .i64 (i : Int), recV x]) T0 = some T ∧
  CW P 0 k1 nt (some lp) asg ⟨T, H, n, V, []⟩ (fun x1 s1 => x1 = .normal ∧ zFp s1.H ∧
   CW P 0 k1 nt (some lp) body s1 (fun x2 s2 => x2 = ex ∧ ∃ T', RcM P 0 k1 nt (some lp) s2 ⟨T', H', n', V, []⟩))
def jumpC : Ex → Option Code
 | .ret => some .ret
 | .exit id => some (.exit id)
 | _ => none
structure RgJ (k1 lp L : Nat) (V : List Nat) (E0 : Env) (w0 : World) (R : Loop) (H : Tr AObj) (n : Nat) (E : Env) (w : World) : Prop where
 fh : FH Try.prog 0 E H n w
 kp : Kept k1 (lp :: V) E0 E w0 w
 tn : ∀ i, Tch k1 V E i → E.ρ i ≠ L
 rc : w.heap[L]? = some (.loop R)
 fl : E.fz L = none
theorem zQc {k1 nt lp L i : Nat} {asg body : Code} {T0 : Tr Value} {ps : Array Tmp} {V : List Nat} {x : RcX} {H H' : Tr AObj} {n n' : Nat} {ex : Ex} {R : Loop} {E0 E : Env} {w0 W : World}
  (hr : RoundS Try.prog k1 nt lp asg body T0 ps V i x H n ex H' n') (hps : ps.size = 2) (hlp : lp < k1) (_ : lp ∉ V) (hJJ : k1 ≤ JJ) (hn : k1 ≤ n) (hx : ex = .normal ∨ ∃ c, jumpC ex = some c) (hnl' : zFp H')
  (hR : R.state = .ready ∧ R.params = ps ∧ R.assign = asg ∧ R.body = body) (hT0 : ∀ t, KpV k1 ((T0.get t).getD undef)) (hTR : TR E0 T0 nt R.tmps) (hd0 : E0.dom lp ∧ E0.ρ lp = L ∧ ¬ E0.ro lp)
  (hJ : RgJ k1 lp L V E0 w0 R H n E W) :
  YieldAt Fence.wide 0 Try.prog L #[.int .i64 (i : Int), recV x] W fun e W' => e = .returned (.bool (jumpC ex).isNone) ∧ ∃ E', RgJ k1 lp L V E0 w0 { R with state := if (jumpC ex).isNone then .ready else .done, pending := jumpC ex } H' n' E' W' := by
 obtain ⟨fh, kp, tn, rc, fl⟩ := hJ
 obtain ⟨T, hz, hcw⟩ := hr
 obtain ⟨hR1, rfl, rfl, rfl⟩ := hR
 have hL : L < W.heap.size := (Array.getElem?_eq_some_iff.1 rc).1
 have hdl : E.dom lp := (kp.dom lp hlp).2 hd0.1
 have hρ : E.ρ lp = L := (kp.ρ lp hlp hd0.1).trans hd0.2.1
 have hrl : ∀ l, some lp = some l → l < k1 := fun l e => by cases e; exact hlp
 refine ⟨_, _, _, _, run_yield rc (by rw [hps]; rfl), roundIn_of_wpIn trivial ?_⟩
 obtain ⟨x1, s1, hs1, rfl, hnl1, hcw2⟩ := hcw hrl hn
 obtain ⟨x2, s2, hs2, rfl, T', hrc⟩ := hcw2 hrl hs1.1
 have hfr : FRn Try.prog 0 E nt (some lp) ⟨T, H, n, V, []⟩ { tmps := (R.params.zip #[.int .i64 (i : Int), recV x]).foldl (fun tmps (x : Tmp × Value) => tmps.setIfInBounds x.1 x.2) R.tmps, defers := [] } W := by
  refine ⟨?_, fh.hr, fh.lw, .nil, fh.gl, fun l e => by cases e; exact hdl, fh.top⟩
  have := zJk R.params.toList [.int .i64 (i : Int), recV x] [.int .i64 (i : Int), recV x] (.cons _ _ _ _ (zAj 8 rfl) (.cons _ _ _ _ (zAj 8 rfl) .nil)) _ _ _ (TR.keep kp.agr hT0 hTR) hz
  show TR E T nt _
  rw [← Array.foldl_toList, Array.toList_zip]
  exact this
 have hF : rdF E (some lp) = Fence.wide.inRound L := by rw [← hρ]; rfl
 have h1 := hs1.2.2 E _ W hfr
 rw [hF] at h1
 refine wpIn_mono h1 ?_
 rintro e a1 w1 ⟨E1, fr1, ex1, kp1⟩
 cases zBu ex1
 have sw1 : subW k1 s1.wr V := hs2.2.1.trans hrc.2.1
 have rc1 : w1.heap[L]? = some (.loop R) := (kp1.atL sw1 hL tn).trans rc
 have hL1 : L < w1.heap.size := (Array.getElem?_eq_some_iff.1 rc1).1
 have hdl1 : E1.dom lp := (kp1.dom lp hlp).2 hdl
 have hρ1 : E1.ρ lp = L := (kp1.ρ lp hlp hdl).trans hρ
 have tn1 := zLs kp1 sw1 hL tn
 have fl1 := zLc kp1 sw1 hL tn fl
 have nro : ∀ {E' : Env} {w' : World}, Kept k1 (lp :: V) E0 E' w0 w' → Tch k1 (lp :: V) E' lp := fun {E' w'} h => ⟨(h.dom lp hlp).2 hd0.1, by omega, fun _ => ⟨by simp, fun x => hd0.2.2 ((h.ro lp hlp hd0.1).1 x)⟩⟩
 have sv : subW k1 V (lp :: V) := fun k hk _ => by simp [hk]
 have kpA : Kept k1 (lp :: V) E0 E1 w0 w1 := kp.trans (kp1.sub (sw1.trans sv)) (.refl _ _)
 show ∃ w₂, _ ∧ _
 refine ⟨_, run_beginRound rc1 hR1, ?_⟩
 have h2 := hs2.2.2 E1 a1 _ (fr1.putL rc1 hnl1 fl1 (.loop { R with state := .busy }))
 rw [show rdF E1 (some lp) = Fence.wide.inRound L by rw [← hρ1]; rfl] at h2
 refine wpIn_mono h2 ?_
 rintro e a2 w3 ⟨E3, fr3, ex3, kp3⟩
 obtain ⟨E4, fr4, kp4⟩ := hrc.2.2 E3 a2 w3 fr3
 have rcb : (w1.putObj L (.loop { R with state := .busy })).heap[L]? = some (.loop { R with state := .busy }) := World.putObj_heap_same hL1
 have hL2 : L < (w1.putObj L (.loop { R with state := .busy })).heap.size := by simpa using hL1
 have sw2 : subW k1 s2.wr V := hrc.2.1
 have rc3 : w3.heap[L]? = some (.loop { R with state := .busy }) := (kp3.atL sw2 hL2 tn1).trans rcb
 have hL3 : L < w3.heap.size := (Array.getElem?_eq_some_iff.1 rc3).1
 have tn3 := zLs kp3 sw2 hL2 tn1
 have tn4 := zLs kp4 (.refl _ _) hL3 tn3
 have fl4 := zLc kp4 (.refl _ _) hL3 tn3 (zLc kp3 sw2 hL2 tn1 fl1)
 have kpB : Kept k1 (lp :: V) E0 E1 w0 (w1.putObj L (.loop { R with state := .busy })) :=
  kpA.trans (Kept.putL (.refl k1 (lp :: V) E1 w1) hρ1 (nro kpA) _) (.refl _ _)
 have kpC : Kept k1 (lp :: V) E0 E3 w0 w3 := kpB.trans (kp3.sub (sw2.trans sv)) (.refl _ _)
 have kpD : Kept k1 (lp :: V) E0 E4 w0 w3 := kpC.trans (kp4.sub sv) (.refl _ _)
 have hρ4 : E4.ρ lp = L := (kpD.ρ lp hlp hd0.1).trans hd0.2.1
 have fin : ∀ o, Kept k1 (lp :: V) E0 E4 w0 (w3.putObj L o) := fun o => kpD.trans (Kept.putL (.refl k1 (lp :: V) E4 w3) hρ4 (nro kpD) _) (.refl _ _)
 have out : ∃ v w', (Instr.endRound L (jumpC x2)).run Try.prog w3 = .ok v w' ∧ (Ending.returned v = .returned (.bool (jumpC x2).isNone) ∧ ∃ E', RgJ k1 lp L V E0 w0 { R with state := if (jumpC x2).isNone then .ready else .done, pending := jumpC x2 } H' n' E' w') :=
  ⟨_, _, run_endRound (jumpC x2) rc3, rfl, E4, ⟨fr4.hr.putL rc3 hnl' fl4 _, fr4.lw, fr4.gl, fr4.top⟩, fin _, tn4, World.putObj_heap_same hL3, fl4⟩
 rcases hx with rfl | ⟨c, hc⟩
 ·cases zBu ex3; exact out
 ·cases x2 with
  | ret => cases e <;> first | exact False.elim ex3 | exact out
  | exit id => cases e <;> first | exact False.elim ex3 | (cases ex3; exact out)
  | _ => cases hc
end Go.Proofs.Ytknpgjeclmadkaa
namespace Go.Proofs.Ytknpgjeclmadkaa
open Go Go.RowKit
def stX (st : Option (Ex × Tr AObj × Nat)) : Ex := match st with | none => .normal | some x => x.1
def stH (H : Tr AObj) (st : Option (Ex × Tr AObj × Nat)) : Tr AObj := match st with | none => H | some x => x.2.1
def stN (n : Nat) (st : Option (Ex × Tr AObj × Nat)) : Nat := match st with | none => n | some x => x.2.2
def StopS (k1 nt lp : Nat) (asg body : Code) (T0 : Tr Value) (ps : Array Tmp) (V : List Nat) (l : List RcX) (m : Nat) (H : Tr AObj) (n : Nat) : Option (Ex × Tr AObj × Nat) → Prop
 | none => m = l.length
 | some (x, H', n') => (∃ c, jumpC x = some c) ∧ zFp H' ∧ k1 ≤ n' ∧ ∃ h : m < l.length, l[m].t = 41 ∧ RoundS Try.prog k1 nt lp asg body T0 ps V m l[m] H n x H' n'
theorem cw_eall {k0 nt : Nat} {g : Operand} {ps : Array Tmp} {asg body : Code} {s : Fs} {K : Ex → Fs → Prop} (l : List RcX) (kc : Nat) (vl : Value) (tb : TypeId) (V : List Nat) (Zh : Nat → Tr AObj) (Zn : Nat → Nat) (m : Nat) (st : Option (Ex × Tr AObj × Nat))
  (hg : aev s.T g = .func (.func 61) #[] #[.pointer (some ⟨kc, 0, none⟩)]) (hok : okX 0 g = true) (hps : ps.size = 2) (hJJ : s.n + 2 ≤ JJ) (hll : l.length ≤ 4611686018427387903) (hlV : s.n + 1 ∉ V) (hdf : s.df = [])
  (hT : ∀ t, KpV s.n ((s.T.get t).getD undef)) (hkc : s.H.get kc = some (.cells [vl] tb))
  (hvl : (vl = .slice none 0 0 ∧ l = []) ∨ (∃ b o c, vl = .slice (some ⟨b, o, none⟩) l.length c ∧ b < s.n ∧ ∀ i, i ≤ m → ∃ ob C, (Zh i).get b = some ob ∧ ob.look = some C ∧ ∀ k (_ : k < l.length) j u, l[k].g[j]? = some u → C[o + k * 5 + j]? = some u) ∨ vl = treeV 5 l.length (l.flatMap layR.g))
  (hstart : ∃ T', RcM Try.prog 0 (s.n + 2) nt none ⟨s.T, s.H.set s.n (some .defs), s.n + 2, s.wr, []⟩ ⟨T', Zh 0, Zn 0, V, []⟩)
  (hnl : ∀ i, i ≤ m → zFp (Zh i)) (hZn : ∀ i, i ≤ m → s.n + 2 ≤ Zn i)
  (hround : ∀ i (h : i < l.length), i < m → l[i].t = 41 → RoundS Try.prog (s.n + 2) nt (s.n + 1) asg body s.T ps V i l[i] (Zh i) (Zn i) .normal (Zh (i + 1)) (Zn (i + 1)))
  (hskip : ∀ i (h : i < l.length), i < m → l[i].t ≠ 41 → Zh (i + 1) = Zh i ∧ Zn (i + 1) = Zn i)
  (hst : StopS (s.n + 2) nt (s.n + 1) asg body s.T ps V l m (Zh m) (Zn m) st)
  (hK : K (stX st) ⟨s.T, stH (Zh m) st, stN (Zn m) st, (s.n + 1) :: V, .mark s.n :: s.df⟩) : CW Try.prog 0 k0 nt none (.rangeFunc g ps asg body) s K := by
 intro _ hk0
 obtain ⟨T1, hst1⟩ := hstart
 have hm : m ≤ l.length := by
  cases st with
  | none => exact Nat.le_of_eq hst
  | some x => obtain ⟨_, _, _, h, _⟩ := hst; omega
 have hsub : subW k0 s.wr ((s.n + 1) :: V) := fun k hk hk2 => by
  have := hst1.2.1 k hk (by show k < s.n + 2; omega)
  exact List.mem_cons_of_mem _ this
 have hle : s.n + 2 ≤ stN (Zn m) st := by
  cases st with
  | none => exact hZn m (Nat.le_refl _)
  | some x => exact hst.2.2.1
 refine ⟨stX st, _, ⟨by show k0 ≤ stN (Zn m) st; omega, hsub, fun E a w hf => ?_⟩, hK⟩
 refine wpIn_rangeFunc fun fn _ => ?_
 have hd1 : ¬ E.dom s.n := fun h => by rcases hf.top _ h with h | h <;> omega
 obtain ⟨k1, k2⟩ := hf.hr.new hd1 (.deferred (some [])) .defs 0 0 (by show _ = _; rw [Env.push_ρ]; exact heap_alloc_new w _)
 obtain ⟨E1, hE1⟩ : ∃ E1, E.push s.n w.heap.size 0 0 = E1 := ⟨_, rfl⟩
 rw [hE1] at k1 k2
 obtain ⟨w1, hw1⟩ : ∃ w1, w.alloc (.deferred (some [])) = w1 := ⟨_, rfl⟩
 rw [hw1] at k1 k2
 have hsz1 : w1.heap.size = w.heap.size + 1 := by rw [← hw1]; simp
 have hdE1 : ∀ k, E1.dom k → E.dom k ∨ k = s.n := fun k h => by rw [← hE1] at h; rcases h with h | h; exact .inr h; exact .inl h
 have hd2 : ¬ E1.dom (s.n + 1) := fun h => by
  rcases hdE1 _ h with h | h
  ·rcases hf.top _ h with h | h <;> omega
  ·omega
 obtain ⟨R, hR⟩ : ∃ R : LoopState → Option Code → Loop, R = fun q pe => { state := q, pending := pe, fn, tmps := a.tmps, params := ps, assign := asg, body, defers := w.heap.size } := ⟨_, rfl⟩
 obtain ⟨q1, q2⟩ := k1.new hd2 (.loop (R .ready none)) (.win [] 0) 0 0 ⟨Env.push_sz _ _ _ _ _, [], rfl, .nil, fun j v h => by simp at h⟩
 obtain ⟨E0, hE0⟩ : ∃ E0, E1.push (s.n + 1) w1.heap.size 0 0 = E0 := ⟨_, rfl⟩
 rw [hE0] at q1 q2
 obtain ⟨w2, hw2⟩ : ∃ w2, w1.alloc (.loop (R .ready none)) = w2 := ⟨_, rfl⟩
 rw [hw2] at q1 q2
 have hLrec : w2.heap[w1.heap.size]? = some (.loop (R .ready none)) := by rw [← hw2]; exact heap_alloc_new w1 _
 have hH1 : (s.H.set s.n (some .defs)).get (s.n + 1) = none := (hf.lw.new _) _ (Nat.le_refl _)
 have hr0 : HR Try.prog E0 (s.H.set s.n (some .defs)).get w2 := q1.sub (fun k o ho => by
  rw [zBz] at ho
  show (if k = s.n + 1 then _ else _) = _
  rw [if_neg (fun e => by rw [e, ← zBz, hH1] at ho; cases ho)]; exact ho)
 have hx : Ext E E0 := k2.ext.trans q2.ext
 have hdE0 : ∀ k, E0.dom k → E.dom k ∨ k = s.n ∨ k = s.n + 1 := fun k h => by
  rw [← hE0] at h
  rcases h with h | h
  ·exact .inr (.inr h)
  ·rcases hdE1 k h with h | h
   ·exact .inl h
   ·exact .inr (.inl h)
 have hlp0 : E0.dom (s.n + 1) ∧ E0.ρ (s.n + 1) = w1.heap.size ∧ ¬ E0.ro (s.n + 1) := by rw [← hE0]; exact ⟨Env.push_dom _ _ _ _ _, Env.push_ρ _ _ _ _ _, Env.push_ro _ _ _ _ _⟩
 have hdd0 : E0.dom s.n ∧ E0.ρ s.n = w.heap.size := by
  have h1 : E1.dom s.n ∧ E1.ρ s.n = w.heap.size := by rw [← hE1]; exact ⟨Env.push_dom _ _ _ _ _, Env.push_ρ _ _ _ _ _⟩
  exact ⟨q2.ext.n _ h1.1, (q2.ext.ρ _ h1.1).trans h1.2⟩
 have stp : Stp E E0 [] w w2 := (k2.trans q2).sub (fun x h => by cases h)
 have kp0 : Kept k0 ((s.n + 1) :: V) E E0 w w2 := by
  refine ⟨fun i hi => ⟨fun h => ?_, hx.n i⟩, fun i _ h => hx.ρ i h, fun i _ h => hx.tot i h, fun i _ h => hx.sz i h, fun i _ h => hx.sh i h, fun i _ h => hx.ro i h, fun hn i hi hJ hd => ?_, stp.os, stp.tape, stp.output, stp.size, fun b hb _ => stp.block b hb (fun _ h => by cases h), fun i hi hJ hd => ?_, hx.fz, fun b ob hb => (stp.fz b ob hb).imp (fun x => x) (fun y => y.imp (fun x => x) (fun ⟨_, h, _⟩ => nomatch h))⟩
  ·rcases hdE0 i h with h | h | h
   ·exact h
   ·omega
   ·omega
  ·by_cases h1 : E.dom i
   ·exact fun x => hn i hi hJ h1 ((hx.ro i h1).1 x)
   ·exact (stp.fresh i h1 hd).1
  ·by_cases h1 : E.dom i
   ·exact .inr ⟨i, ⟨h1, hJ, fun h => by omega⟩, (hx.ρ i h1).symm⟩
   ·rcases (stp.fresh i h1 hd).2 with h2 | ⟨_, h, _⟩
    ·exact .inl h2
    ·cases h
 have hf0 : FRn Try.prog 0 E0 nt none ⟨s.T, s.H.set s.n (some .defs), s.n + 2, s.wr, []⟩ { tmps := a.tmps, defers := [] } w2 :=
  ⟨hf.tr.ext hx, hr0, fun k hk => hf.lw.new _ k (by show s.n + 1 ≤ k; have : s.n + 2 ≤ k := hk; omega), .nil, fun g h => absurd h (Nat.not_lt_zero _), fun l h => (nomatch h), fun k h => by
   show k < s.n + 2 ∨ JJ ≤ k
   rcases hdE0 k h with h | h | h
   ·rcases hf.top k h with h | h
    ·exact .inl (by omega)
    ·exact .inr h
   ·exact .inl (by omega)
   ·exact .inl (by omega)⟩
 obtain ⟨E2, fr2, kp2⟩ := hst1.2.2 E0 _ w2 hf0
 have hLs : w1.heap.size < w2.heap.size := (Array.getElem?_eq_some_iff.1 hLrec).1
 have tn0 : ∀ i, Tch (s.n + 2) V E0 i → E0.ρ i ≠ w1.heap.size := fun i hi => by
  rcases hdE0 i hi.1 with h | h | h
  ·rw [hx.ρ i h]; have := hf.hr.lt i h; omega
  ·subst h; rw [hdd0.2]; omega
  ·subst h; exact absurd (hi.2.2 (by omega)).1 hlV
 have fl0 : E0.fz w1.heap.size = none := by
  cases hf0' : E0.fz w1.heap.size with
  | none => rfl
  | some ob =>
   have : E.fz w1.heap.size = some ob := by rw [← hE0, ← hE1] at hf0'; exact hf0'
   have := (Array.getElem?_eq_some_iff.1 (hf.hr.fz _ ob this)).1; omega
 have hT2 : ∀ t, KpV (s.n + 2) ((s.T.get t).getD undef) := fun t => (hT t).mono (by omega)
 have hTR : TR E0 s.T nt (R .ready none).tmps := by rw [hR]; exact hf.tr.ext hx
 have J0 : RgJ (s.n + 2) (s.n + 1) w1.heap.size V E0 w2 (R .ready none) (Zh 0) (Zn 0) E2 w2 :=
  ⟨fr2.fh, kp2.sub (fun k hk _ => by simp [hk]), zLs kp2 (.refl _ _) hLs tn0, hLrec, zLc kp2 (.refl _ _) hLs tn0 fl0⟩
 have hvg := zBa hf.tr hf.gl hok
 rw [hg] at hvg
 obtain ⟨cap', he, hcap⟩ : ∃ cap' : Array Value, a.eval g = .func (.func 61) #[] cap' ∧ VL E [.pointer (some ⟨kc, 0, none⟩)] cap'.toList := by
  cases hv' : a.eval g <;> rw [hv'] at hvg <;> cases hvg
  rename_i fi ca _ h1 h2
  have : fi.toList = [] := by generalize fi.toList = q at h1; cases h1; rfl
  exact ⟨ca, by rw [show fi = #[] from by rw [← Array.toArray_toList (xs := fi), this]], h2⟩
 have hkn : kc < s.n := hf.lw.lt (by rw [hkc]; simp)
 have hdk : E.dom kc := hf.hr.live (by rw [hkc]; simp)
 have hsh : E.sh kc = 0 := by obtain ⟨_, _, _, _, _, _, _, _, h7, _⟩ := hf.hr.obj kc _ hkc; exact h7
 obtain ⟨v', hv1, _, hv2⟩ := zAy (hr0.obj kc _ (by rw [Tr.get_set_ne _ _ (by omega)]; exact hkc)) 0 vl rfl
 rw [hx.ρ kc hdk] at hv1
 have hcap' : cap' = #[.pointer (some ⟨E.ρ kc, 0, none⟩)] := by
  have : cap'.toList = [.pointer (some ⟨E.ρ kc, 0, none⟩)] := by
   generalize cap'.toList = q at hcap
   cases hcap with
   | cons _ x _ y h1 h2 =>
    cases h2
    cases h1 with
    | ptr _ _ _ => rw [hsh]
  rw [← Array.toArray_toList (xs := cap'), this]
 subst hcap'
 obtain ⟨p, c', hvp, hpl⟩ : ∃ p c', v' = .slice p l.length c' ∧ (l ≠ [] → (∃ b o c, vl = .slice (some ⟨b, o, none⟩) l.length c ∧ E0.dom b ∧ p = some ⟨E0.ρ b, E0.sh b + o, none⟩) ∨ (∃ b o, p = some ⟨b, o, none⟩ ∧ vl = treeV 5 l.length (l.flatMap layR.g) ∧ ∀ (j : Nat) (u : Value), (l.flatMap layR.g)[j]? = some u → fzc E0.fz b (o + j) = some u)) := by
  rcases hvl with ⟨rfl, rfl⟩ | ⟨b, o, c, rfl, hb, _⟩ | rfl
  ·cases hv2; exact ⟨none, 0, rfl, fun h => absurd rfl h⟩
  ·generalize hn : l.length = n at hv2
   cases hv2 with
   | sl _ _ _ _ h hc => exact ⟨_, _, rfl, fun _ => .inl ⟨b, o, c, rfl, h, rfl⟩⟩
   | su _ _ _ _ h q1 q2 q3 => exact ⟨_, _, rfl, fun _ => .inl ⟨b, o, _, rfl, h, rfl⟩⟩
   | se _ _ _ a' h q1 q2 => exact ⟨_, _, rfl, fun hne => absurd (List.eq_nil_of_length_eq_zero hn) hne⟩
  ·obtain ⟨b, o, k, a', x, rfl, hl1, _, _, ha, h1, h2⟩ := hv2.tree_inv
   simp only [] at h1 h2
   refine ⟨_, _, rfl, fun hne => .inr ?_⟩
   rcases ha with rfl | ⟨h0, _⟩
   ·refine ⟨b, o, rfl, rfl, fun j u hj => ?_⟩
    have hu : plainV 8 u = true := List.all_eq_true.1 (zAc layR.g layR.plain l) u (List.mem_of_getElem? hj)
    have h3 := h2 j u hj
    rw [h1 j (List.getElem?_eq_some_iff.1 hj).1, zBg 8 hu h3.vr (E := E0)]
   ·exact absurd (List.eq_nil_of_length_eq_zero h0) hne
 subst hvp
 obtain ⟨L, hLd⟩ : ∃ L, w1.heap.size = L := ⟨_, rfl⟩
 have hLn : w.heap.size + 1 = L := hsz1.symm.trans hLd
 have hc := eall_in 0 L (E.ρ kc) l (fun i W => i ≤ m ∧ ∃ E', RgJ (s.n + 2) (s.n + 1) L V E0 w2 (R .ready none) (Zh i) (Zn i) E' W)
  (fun W => ∃ x H' n', st = some (x, H', n') ∧ ∃ E', RgJ (s.n + 2) (s.n + 1) L V E0 w2 (R .done (jumpC x)) H' n' E' W) p c' hll
  (fun hne => by
   rcases hpl hne with ⟨b, o, c, e1, hdb, rfl⟩ | ⟨b, o, rfl, _, hcell⟩
   rotate_left
   ·refine ⟨b, o, rfl, fun i W hJ k hk j u hu => ?_⟩
    obtain ⟨him, E', hJ⟩ := hJ
    have hj5 : j < 5 := by have := (List.getElem?_eq_some_iff.1 hu).1; exact this
    have h4 : (l.flatMap layR.g)[k * 5 + j]? = some u := by
     have := RdL.cell layR [] [] l k j hk hj5
     simp only [List.nil_append, List.append_nil, List.length_nil, Nat.zero_add] at this
     exact this.trans hu
    have h5 := zLd hJ.kp.fz (hcell _ _ h4)
    have h6 := hJ.fh.hr.fzc h5
    rw [Nat.add_assoc]; exact h6
   rcases hvl with ⟨_, h⟩ | ⟨b', o', c2, e2, hb, hz⟩ | h
   ·exact absurd h hne
   rotate_left
   ·rw [h] at e1; cases e1
   rw [e1] at e2
   simp only [Value.slice.injEq, Option.some.injEq, Addr.mk.injEq] at e2
   obtain ⟨⟨rfl, rfl, _⟩, _, rfl⟩ := e2
   refine ⟨_, _, rfl, fun i W hJ k hk j u hu => ?_⟩
   obtain ⟨him, E', hJ⟩ := hJ
   obtain ⟨ob, C, z1, z2, z3⟩ := hz i him
   obtain ⟨u', c1, c2⟩ := (hJ.fh.hr.obj b ob z1).look_at z2 _ u (z3 k hk j u hu)
   have hpu : plainV 8 u = true := List.all_eq_true.1 (layR.plain l[k]) u (List.mem_of_getElem? hu)
   rw [zBg 8 hpu c2, hJ.kp.ρ b (by omega) hdb, hJ.kp.sh b (by omega) hdb] at c1
   rw [← c1]; congr 2; omega)
  (fun i W W' ⟨him, E', hJ⟩ hg => ⟨him, E', ⟨hJ.fh.hr.grow hg, hJ.fh.lw, hJ.fh.gl, hJ.fh.top⟩, hJ.kp.grow hg, hJ.tn, (hg.block L (Array.getElem?_eq_some_iff.1 hJ.rc).1 (by simp)).trans hJ.rc, hJ.fl⟩)
  (fun i h W ⟨him, E', hJ⟩ ht => by
   by_cases h1 : i < m
   ·obtain ⟨e1, e2⟩ := hskip i h h1 ht
    exact ⟨h1, E', by rw [e1, e2]; exact hJ⟩
   ·have : i = m := by omega
    subst this
    cases st with
    | none => have : i = l.length := hst; omega
    | some x => obtain ⟨_, _, _, _, h41, _⟩ := hst; exact absurd h41 ht)
  (fun i h W ⟨him, E', hJ⟩ ht => by
   have hRR : (R .ready none).state = .ready ∧ (R .ready none).params = ps ∧ (R .ready none).assign = asg ∧ (R .ready none).body = body := by rw [hR]; exact ⟨rfl, rfl, rfl, rfl⟩
   by_cases h1 : i < m
   ·obtain ⟨fn', tm, as', bo, y1, y2⟩ := zQc (hround i h h1 ht) hps (by omega) hlV hJJ (hZn i him) (.inl rfl) (hnl (i + 1) h1) hRR hT2 hTR (by rw [← hLd]; exact hlp0) hJ
    refine ⟨fn', tm, as', bo, y1, y2.mono fun e W' ⟨he, E'', hj⟩ => .inl ⟨he, h1, E'', ?_⟩⟩
    rw [hR] at hj ⊢; exact hj
   ·have : i = m := by omega
    subst this
    cases st with
    | none => have : i = l.length := hst; omega
    | some x =>
     obtain ⟨x, H', n'⟩ := x
     obtain ⟨⟨c, hjc⟩, hn2, _, _, _, hrd⟩ := hst
     obtain ⟨fn', tm, as', bo, y1, y2⟩ := zQc hrd hps (by omega) hlV hJJ (hZn i him) (.inr ⟨c, hjc⟩) hn2 hRR hT2 hTR (by rw [← hLd]; exact hlp0) hJ
     refine ⟨fn', tm, as', bo, y1, y2.mono fun e W' ⟨he, E'', hj⟩ => .inr ⟨by rw [he, hjc]; rfl, x, H', n', rfl, E'', ?_⟩⟩
     rw [hR] at hj ⊢; rw [hjc] at hj ⊢; exact hj)
  w2 hv1 ⟨Nat.zero_le _, E2, by rw [← hLd]; exact J0⟩
 have hconst : ∀ v, a.eval (.const v) = v := fun _ => rfl
 obtain ⟨_, _, _, _, hrun⟩ := zCf (show callable Try.prog 61 = true by kernel_rfl)
 have hdfa : a.defers = [] := by
  have := hf.df
  rw [hdf] at this
  generalize a.defers = q at this
  cases this; rfl
 have fin : ∀ (x : Ex) (e : Exit) (H' : Tr AObj) (n' : Nat) (E' : Env) (w3 : World) (q : LoopState) (pe : Option Code), RgJ (s.n + 2) (s.n + 1) L V E0 w2 (R q pe) H' n' E' w3 → zFp H' → exR E' x e → ∀ o,
   SP Try.prog 0 k0 E w nt none x ⟨s.T, H', n', (s.n + 1) :: V, .mark s.n :: s.df⟩ e { a with defers := [{ target := .collected w.heap.size, args := #[] }] ++ a.defers } (w3.putObj L o) := by
  intro x e H' n' E' w3 q pe hj hnH hex o
  have hdd : E'.dom s.n := (hj.kp.dom s.n (by omega)).2 hdd0.1
  have hrr : E'.ρ s.n = w.heap.size := (hj.kp.ρ s.n (by omega) hdd0.1).trans hdd0.2
  have htch : Tch (s.n + 2) ((s.n + 1) :: V) E' (s.n + 1) := ⟨(hj.kp.dom _ (by omega)).2 hlp0.1, by omega, fun _ => ⟨by simp, fun z => hlp0.2.2 ((hj.kp.ro _ (by omega) hlp0.1).1 z)⟩⟩
  have hrl : E'.ρ (s.n + 1) = L := (hj.kp.ρ _ (by omega) hlp0.1).trans (hlp0.2.1.trans hLd)
  refine ⟨E', ⟨TR.keep hj.kp.agr hT2 (hf.tr.ext hx), hj.fh.hr.putL hj.rc hnH hj.fl o, hj.fh.lw, ?_, hj.fh.gl, fun l h => (nomatch h), hj.fh.top⟩, hex, ?_⟩
  ·have := DR.mark (E := E') s.n [] [] hdd .nil
   rw [hrr] at this
   show DR E' (.mark s.n :: s.df) ([_] ++ a.defers)
   rw [hdf, hdfa]; exact this
  ·exact kp0.trans (((hj.kp.trans (Kept.putL (.refl _ _ E' w3) hrl htch o) (.refl _ _))).weak (by omega)) (.refl _ _)
 have hent := run_enterLoop_outer (P := Try.prog) (w := w) fn a.tmps ps asg body
 rw [hw1, hLn] at hent
 have hRr : ({ state := .ready, pending := none, fn, tmps := a.tmps, params := ps, assign := asg, body, defers := w.heap.size } : Loop) = R .ready none := by rw [hR]
 rw [hRr, hw2] at hent
 refine zLh (f := 61) (args := #[.func (.yield L) #[] #[]] ++ #[.pointer (some ⟨E.ρ kc, 0, none⟩)]) (d := { target := .fn (.func 61) #[.pointer (some ⟨E.ρ kc, 0, none⟩)], args := #[] ++ #[.func (.yield L) #[] #[]] }) hent (by simp [resolve, he, hconst, Deferred.ofValue]) (by simp [invoke, hrun]) (zGi ?_)
 refine hc.mono ?_
 rintro e w3 ⟨⟨v, rfl⟩, ⟨him, E', hj⟩ | ⟨x, H', n', rfl, E', hj⟩⟩
 ·have hml : m = l.length := by omega
  subst hml
  cases st with
  | some x => obtain ⟨_, _, _, h, _⟩ := hst; exact absurd h (Nat.lt_irrefl _)
  | none =>
   refine ⟨_, _, run_endLoop hj.rc (by rw [hR]; simp), ?_⟩
   rw [show (R .ready none).pending = none by rw [hR]]
   exact fin .normal .normal _ _ E' w3 _ _ hj (hnl _ (Nat.le_refl _)) trivial _
 ·obtain ⟨⟨c, hjc⟩, hn2, _⟩ := hst
  refine ⟨_, _, run_endLoop hj.rc (by rw [hR]; simp), ?_⟩
  rw [show (R .done (jumpC x)).pending = jumpC x by rw [hR]]
  cases x with
  | ret => exact wpIn_ret (fin .ret .ret _ _ E' w3 _ _ hj hn2 trivial _)
  | exit id => exact wpIn_exit (fin (.exit id) (.exit id) _ _ E' w3 _ _ hj hn2 rfl _)
  | _ => cases hjc
theorem zMf {k0 nt : Nat} {g : Operand} {ps : Array Tmp} {asg body : Code} {T : Tr Value} {H : Tr AObj} {W : List Nat} {K : Ex → Fs → Prop} (n lp k1 : Nat) (hn1 : lp = n + 1) (hn2 : k1 = n + 2) (l : List RcX) (kc : Nat) (vl : Value) (tb : TypeId) (V : List Nat) (Zh : Nat → Tr AObj) (Zn : Nat → Nat) (m : Nat) (st : Option (Ex × Tr AObj × Nat))
  (hg : aev T g = .func (.func 61) #[] #[.pointer (some ⟨kc, 0, none⟩)]) (hok : okX 0 g = true) (hps : ps.size = 2) (hJJ : k1 ≤ JJ) (hll : l.length ≤ 4611686018427387903) (hlV : lp ∉ V)
  (hT : ∀ t, KpV n ((T.get t).getD undef)) (hkc : H.get kc = some (.cells [vl] tb))
  (hvl : (vl = .slice none 0 0 ∧ l = []) ∨ (∃ b o c, vl = .slice (some ⟨b, o, none⟩) l.length c ∧ b < n ∧ ∀ i, i ≤ m → ∃ ob C, (Zh i).get b = some ob ∧ ob.look = some C ∧ ∀ k (_ : k < l.length) j u, l[k].g[j]? = some u → C[o + k * 5 + j]? = some u) ∨ vl = treeV 5 l.length (l.flatMap layR.g))
  (hstart : ∃ T', RcM Try.prog 0 k1 nt none ⟨T, H.set n (some .defs), k1, W, []⟩ ⟨T', Zh 0, Zn 0, V, []⟩)
  (hnl : ∀ i, i ≤ m → zFp (Zh i)) (hZn : ∀ i, i ≤ m → k1 ≤ Zn i)
  (hround : ∀ i (h : i < l.length), i < m → l[i].t = 41 → RoundS Try.prog k1 nt lp asg body T ps V i l[i] (Zh i) (Zn i) .normal (Zh (i + 1)) (Zn (i + 1)))
  (hskip : ∀ i (h : i < l.length), i < m → l[i].t ≠ 41 → Zh (i + 1) = Zh i ∧ Zn (i + 1) = Zn i)
  (hst : StopS k1 nt lp asg body T ps V l m (Zh m) (Zn m) st)
  (hK : K (stX st) ⟨T, stH (Zh m) st, stN (Zn m) st, lp :: V, [.mark n]⟩) : CW Try.prog 0 k0 nt none (.rangeFunc g ps asg body) ⟨T, H, n, W, []⟩ K := by
 subst hn1; subst hn2
 exact cw_eall (s := ⟨T, H, n, W, []⟩) l kc vl tb V Zh Zn m st hg hok hps hJJ hll hlV rfl hT hkc hvl hstart hnl hZn hround hskip hst hK
theorem zEv {d : Nat} {bs : List (Nat × AObj)} (h : ∀ p ∈ bs, ∀ r, p.2 ≠ .loop r) : zFp (heap d bs) := fun k r e => by
 unfold heap at e
 rw [zEf] at e
 split at e
 ·rcases zGo (0 + 1 * k) none bs with ⟨v, hv, e2⟩ | e2
  ·rw [e2] at e; exact h _ hv r (Option.some.inj e)
  ·rw [e2] at e; cases e
 ·cases e
end Go.Proofs.Ytknpgjeclmadkaa
namespace Go.Proofs.Ytknpgjeclmadkaa
open Go Go.RowKit
theorem cw_blur {P : Program} {g0 k0 nt d : Nat} {rd : Option Nat} {c : Code} {s : Fs} {lv : List (Nat × Value)} {H : Tr AObj} {n : Nat} {W : List Nat} {df : List ADf} {K : Ex → Fs → Prop} (h : ∃ f, RcM P g0 k0 nt rd s ⟨slots d lv f, H, n, W, df⟩) (k : ∀ g, (∀ t, KpV 0 ((g t).getD undef)) → CW P g0 k0 nt rd c ⟨slots d lv g, H, n, W, df⟩ K) : CW P g0 k0 nt rd c s K := by
 obtain ⟨f, hf⟩ := h
 obtain ⟨g, hg, hr⟩ := rc_blur (P := P) (g0 := g0) (k0 := k0) (nt := nt) (d := d) (rd := rd) (lv := lv) (f := f) (H := H) (n := n) (W := W) (df := df) hf.1
 exact (k g hg).pre hr |>.pre hf
theorem zIu {P : Program} {g0 k0 nt d : Nat} {rd : Option Nat} {s : Fs} {lv : List (Nat × Value)} {H : Tr AObj} {n : Nat} {W : List Nat} {df : List ADf} (h : ∃ f, RcM P g0 k0 nt rd s ⟨slots d lv f, H, n, W, df⟩) : ∃ T', RcM P g0 k0 nt rd s ⟨T', H, n, W, df⟩ := let ⟨_, h⟩ := h; ⟨_, h⟩
noncomputable def inl_eall : Ct Try.prog 0 := Ct.inl (tbOf mixed []) mixed [] 43 Try.f43 Try.func43 (bodyOf Try.f43) (by kernel_rfl)
noncomputable def tbEd : Tb Try.prog 0 := tbOf mixed [inl_eall]
def cntO (l : List RcX) : Nat := (l.filter fun x => x.t = 41).length
theorem cntO_in (l : List RcX) (i : Nat) (h : i < l.length) : cntO (l.take (i + 1)) = if l[i].t = 41 then cntO (l.take i) + 1 else cntO (l.take i) := by
 unfold cntO
 rw [List.take_succ_eq_append_getElem h, List.filter_append, List.length_append]
 by_cases h1 : l[i].t = 41 <;> simp [h1]
theorem cntO_le (l : List RcX) (i : Nat) : cntO (l.take i) ≤ l.length := by
 unfold cntO
 exact Nat.le_trans (List.length_filter_le _ _) (by simp; omega)
end Go.Proofs.Ytknpgjeclmadkaa
namespace Go.Proofs.Ytknpgjeclmadkaa
open Go Go.RowKit
def nop (x : RcX) : Bool := !decide (x.t = 41)
def fromO (l : List RcX) : Nat → Nat
 | 0 => 0
 | i + 1 => if h : i < l.length then (if l[i].t = 41 then i + 1 else fromO l i) else fromO l i
theorem zHp (l : List RcX) : ∀ i, fromO l i ≤ i
 | 0 => Nat.le_refl _
 | i + 1 => by
  have := zHp l i
  unfold fromO
  split
  ·split
   ·omega
   ·omega
  ·omega
def outO (l : List RcX) (i : Nat) : List RcX := (l.take (fromO l i)).filter nop
theorem zGl (l : List RcX) : ∀ i, i ≤ l.length → (l.take i).filter nop = outO l i ++ (l.drop (fromO l i)).take (i - fromO l i)
 | 0, _ => by simp [outO, fromO]
 | i + 1, h => by
  have hi : i < l.length := by omega
  have ih := zGl l i (by omega)
  have hle := zHp l i
  rw [List.take_succ_eq_append_getElem hi, List.filter_append]
  by_cases h41 : l[i].t = 41
  ·have e : fromO l (i + 1) = i + 1 := by rw [fromO, dif_pos hi, if_pos h41]
   unfold outO
   rw [e, List.take_succ_eq_append_getElem hi, List.filter_append, Nat.sub_self, List.take_zero, List.append_nil]
  ·have e : fromO l (i + 1) = fromO l i := by rw [fromO, dif_pos hi, if_neg h41]
   have e2 : outO l (i + 1) = outO l i := by unfold outO; rw [e]
   have hn : [l[i]].filter nop = [l[i]] := by simp [nop, h41]
   rw [e, e2, ih, hn, List.append_assoc, show i + 1 - fromO l i = (i - fromO l i) + 1 by omega, List.take_succ_eq_append_getElem (by rw [List.length_drop]; omega)]
   congr 2
   simp only [List.getElem_drop]
   congr 2; omega
theorem outO_step (l : List RcX) (i : Nat) (hi : i < l.length) (h41 : l[i].t = 41) : fromO l (i + 1) = i + 1 ∧ outO l (i + 1) = outO l i ++ (l.drop (fromO l i)).take (i - fromO l i) := by
 have e : fromO l (i + 1) = i + 1 := by rw [fromO, dif_pos hi, if_pos h41]
 refine ⟨e, ?_⟩
 rw [← zGl l i (Nat.le_of_lt hi)]
 unfold outO
 rw [e, List.take_succ_eq_append_getElem hi, List.filter_append]
 simp [nop, h41]
theorem outO_skip (l : List RcX) (i : Nat) (hi : i < l.length) (h41 : l[i].t ≠ 41) : fromO l (i + 1) = fromO l i ∧ outO l (i + 1) = outO l i := by
 have e : fromO l (i + 1) = fromO l i := by rw [fromO, dif_pos hi, if_neg h41]
 exact ⟨e, by unfold outO; rw [e]⟩
theorem outO_end (l : List RcX) : l.filter nop = outO l l.length ++ l.drop (fromO l l.length) := by
 have := zGl l l.length (Nat.le_refl _)
 rw [List.take_length, List.take_of_length_le (l := l.drop _) (by rw [List.length_drop]; omega)] at this
 exact this
end Go.Proofs.Ytknpgjeclmadkaa
namespace Go.Proofs.Ytknpgjeclmadkaa
open Go Go.RowKit
noncomputable def tbTk : Tb Try.prog 0 := tbOf mixed []
abbrev trR (l : List RcX) : Value := treeV 5 l.length (l.flatMap layR.g)
abbrev trQ (l : List QuX) : Value := treeV 3 l.length (l.flatMap layQ.g)
theorem zAr {α : Type} (L : Lay α) {z : Nat} {a b : List α} (h : treeV z a.length (a.flatMap L.g) = treeV z b.length (b.flatMap L.g)) : a = b := by
 simp only [treeV, Value.func.injEq, Fn.via.injEq, Array.mk.injEq, true_and, and_true] at h
 exact L.flat_inj _ _ h.2
theorem zAe {α : Type} (L : Lay α) {l : List α} {i : Nat} (h : i < l.length) : ((l.flatMap L.g).drop ((i : Int).toNat * L.k)).take L.k = L.g l[i] := by
 rw [Int.toNat_natCast]; exact (zLa L.g L.k L.len l i h).2
theorem zJi {α : Type} (L : Lay α) (l : List α) (a b : Nat) : ((l.flatMap L.g).drop (a * L.k)).take (b * L.k) = ((l.drop a).take b).flatMap L.g := by
 rw [zFk L.g L.k L.len]
 generalize l.drop a = q
 induction b generalizing q with
 | zero => simp
 | succ b ih =>
  cases q with
  | nil => simp
  | cons x q => rw [List.take_succ_cons, List.flatMap_cons, List.flatMap_cons, Nat.add_mul, Nat.one_mul, Nat.add_comm, List.take_append, L.len, List.take_of_length_le (by rw [L.len]; omega), Nat.add_sub_cancel_left, ih]
theorem zPs {α : Type} {g : α → List Value} (h : ∀ x, oneL (g x) = true) (l : List α) : oneL (l.flatMap g) = true := by
 unfold oneL at h ⊢
 rw [List.all_eq_true]
 intro v hv
 obtain ⟨x, _, hx⟩ := List.mem_flatMap.1 hv
 exact List.all_eq_true.1 (h x) v hx
theorem sameQ_tr (l1 l2 : List QuX) (hl : l1.length ≤ 9223372036854775807) : ∃ r, FnS Try.prog 0 38 [trQ l1, trQ l2] .e 0 r ∧ ∃ H m wr, r = .ret (.bool (decide (l1 = l2))) H m wr := by
 refine zCe mixed tbTk [] Try.func38 (c := bodyOf Try.f38) (by kernel_rfl) ?_
 refine ifK (fun g => ?_) (fun g => ?_)
 ·have e : decide (l1 = l2) = false := decide_eq_false (fun e => by subst e; simp at g)
  rw [e]; exact ⟨_, _, _, rfl⟩
 have hlen : l1.length = l2.length := by
  have hz : (l1.length : Int) = l2.length := by simpa using g
  omega
 refine zAi (fun (i : Nat) f => ⟨slots 6 [(0, trQ l1), (1, trQ l2), (5, .int .i64 (i : Nat))] f, heap 0 [], 0, [], []⟩) (fun i => l1.length - i) (fun i => i ≤ l1.length ∧ l1.take i = l2.take i) 0 ⟨Nat.zero_le _, rfl⟩ (rcq [] ⟨⟨_, rfl, zAd 8 rfl⟩, ⟨_, rfl, zAd 8 rfl⟩, ⟨_, rfl, .int _ _⟩, trivial⟩ trivial .nil) ?_
 rintro i f ⟨hi, heq⟩
 refine zAq tbTk [] 0 _ none mixed _ _ _ ?_
 refine ifK (fun h1 => ?_) (fun h1 => ?_)
 ·have h1 : i < l1.length := by have := of_decide_eq_true h1; omega
  have h2 : i < l2.length := by omega
  refine And.intro (by kernel_rfl) ?_
  refine ifK (fun _ => ?_) (fun h2 => absurd h2 (by simp [inI]; omega))
  refine Exists.intro l1[i].n (Exists.intro l1[i].t (Exists.intro l1[i].c (And.intro (zAe layQ h1) ?_)))
  refine ifK (fun _ => ?_) (fun h2 => absurd h2 (by simp [inI]; omega))
  refine Exists.intro l2[i].n (Exists.intro l2[i].t (Exists.intro l2[i].c (And.intro (zAe layQ h2) ?_)))
  refine And.intro struct_q ?_
  refine ifK (fun h3 => ?_) (fun h3 => ?_)
  ·have e : decide (l1 = l2) = false := decide_eq_false (fun e => by
    have he : l1[i] = l2[i] := zMn h1 h2 e
    rw [he] at h3; simp at h3)
   refine And.intro rfl (zAn (rcq [] (d := 6) (d2 := 0) (lv := [(4, .bool false)]) (bs := []) (W := []) (m := 0) (df := []) ⟨⟨_, rfl, zCg 8 rfl⟩, trivial⟩ trivial .nil) (fun f => ?_))
   rw [e]; exact ⟨_, _, _, rfl⟩
  ·refine ⟨i + 1, ⟨h1, zNc h1 h2 heq ?_⟩, by omega, rcq [] ⟨⟨_, rfl, zAd 8 rfl⟩, ⟨_, rfl, zAd 8 rfl⟩, zAa rfl (by rw [wrapN (by omega) (by omega)]; omega), trivial⟩ trivial .nil⟩
   simp only [Bool.not_eq_false', Bool.and_eq_true, beq_iff_eq, Bool.and_true] at h3
   obtain ⟨q0, q1, q2⟩ := h3
   cases hx : l1[i] with | mk x0 x1 x2 =>
   cases hy : l2[i] with | mk y0 y1 y2 =>
   rw [hx, hy] at q0 q1 q2
   simp only at q0 q1 q2
   rw [zPb q0, q1, q2]
 ·have h1 : ¬ i < l1.length := by have := of_decide_eq_false h1; omega
  have e : decide (l1 = l2) = true := decide_eq_true (by
   have := heq
   rwa [List.take_of_length_le (by omega), List.take_of_length_le (by omega)] at this)
  refine And.intro rfl (zAn (rcq [] (d := 6) (d2 := 0) (lv := []) (bs := []) (W := []) (m := 0) (df := []) trivial trivial .nil) (fun f => ?_))
  rw [e]; exact ⟨_, _, _, rfl⟩
theorem sameRs_tr (l1 l2 : List RcX) (hl : l1.length ≤ 9223372036854775807) : ∃ r, FnS Try.prog 0 39 [trR l1, trR l2] .e 0 r ∧ ∃ H m wr, r = .ret (.bool (decide (l1 = l2))) H m wr := by
 refine zCe mixed tbTk [] Try.func39 (c := bodyOf Try.f39) (by kernel_rfl) ?_
 refine ifK (fun g => ?_) (fun g => ?_)
 ·have e : decide (l1 = l2) = false := decide_eq_false (fun e => by subst e; simp at g)
  rw [e]; exact ⟨_, _, _, rfl⟩
 have hlen : l1.length = l2.length := by
  have hz : (l1.length : Int) = l2.length := by simpa using g
  omega
 refine zAi (fun (i : Nat) f => ⟨slots 6 [(0, trR l1), (1, trR l2), (5, .int .i64 (i : Nat))] f, heap 0 [], 0, [], []⟩) (fun i => l1.length - i) (fun i => i ≤ l1.length ∧ l1.take i = l2.take i) 0 ⟨Nat.zero_le _, rfl⟩ (rcq [] ⟨⟨_, rfl, zAd 8 rfl⟩, ⟨_, rfl, zAd 8 rfl⟩, ⟨_, rfl, .int _ _⟩, trivial⟩ trivial .nil) ?_
 rintro i f ⟨hi, heq⟩
 refine zAq tbTk [] 0 _ none mixed _ _ _ ?_
 refine ifK (fun h1 => ?_) (fun h1 => ?_)
 ·have h1 : i < l1.length := by have := of_decide_eq_true h1; omega
  have h2 : i < l2.length := by omega
  refine And.intro (by kernel_rfl) ?_
  refine ifK (fun _ => ?_) (fun h2 => absurd h2 (by simp [inI]; omega))
  refine Exists.intro l1[i].n (Exists.intro l1[i].t (Exists.intro l1[i].c (Exists.intro l1[i].ttl (Exists.intro l1[i].d (And.intro (zAe layR h1) ?_)))))
  refine ifK (fun _ => ?_) (fun h2 => absurd h2 (by simp [inI]; omega))
  refine Exists.intro l2[i].n (Exists.intro l2[i].t (Exists.intro l2[i].c (Exists.intro l2[i].ttl (Exists.intro l2[i].d (And.intro (zAe layR h2) ?_)))))
  refine And.intro struct_r ?_
  refine ifK (fun h3 => ?_) (fun h3 => ?_)
  ·have e : decide (l1 = l2) = false := decide_eq_false (fun e => by
    have he : l1[i] = l2[i] := zMn h1 h2 e
    rw [he] at h3; simp at h3)
   refine And.intro rfl (zAn (rcq [] (d := 6) (d2 := 0) (lv := [(4, .bool false)]) (bs := []) (W := []) (m := 0) (df := []) ⟨⟨_, rfl, zCg 8 rfl⟩, trivial⟩ trivial .nil) (fun f => ?_))
   rw [e]; exact ⟨_, _, _, rfl⟩
  ·refine ⟨i + 1, ⟨h1, zNc h1 h2 heq ?_⟩, by omega, rcq [] ⟨⟨_, rfl, zAd 8 rfl⟩, ⟨_, rfl, zAd 8 rfl⟩, zAa rfl (by rw [wrapN (by omega) (by omega)]; omega), trivial⟩ trivial .nil⟩
   simp only [Bool.not_eq_false', Bool.and_eq_true, beq_iff_eq, Bool.and_true] at h3
   obtain ⟨q0, q1, q2, q3, q4⟩ := h3
   cases hx : l1[i] with | mk x0 x1 x2 x3 x4 =>
   cases hy : l2[i] with | mk y0 y1 y2 y3 y4 =>
   rw [hx, hy] at q0 q1 q2 q3 q4
   simp only at q0 q1 q2 q3 q4
   rw [zPb q0, q1, q2, q3, zPb q4]
 ·have h1 : ¬ i < l1.length := by have := of_decide_eq_false h1; omega
  have e : decide (l1 = l2) = true := decide_eq_true (by
   have := heq
   rwa [List.take_of_length_le (by omega), List.take_of_length_le (by omega)] at this)
  refine And.intro rfl (zAn (rcq [] (d := 6) (d2 := 0) (lv := []) (bs := []) (W := []) (m := 0) (df := []) trivial trivial .nil) (fun f => ?_))
  rw [e]; exact ⟨_, _, _, rfl⟩
noncomputable def ct_sameQT : Ct Try.prog 0 := CtR.tree 38 (List QuX × List QuX) (fun x => [trQ x.1, trQ x.2]) (fun x => x.1.length ≤ 9223372036854775807) (fun x => .bool (decide (x.1 = x.2))) (fun a b h => by simp only [List.cons.injEq, and_true] at h; exact Prod.ext (zAr layQ h.1) (zAr layQ h.2)) (fun _ => rfl)
 (fun x hl => by obtain ⟨r, hF, H, m, wr, rfl⟩ := sameQ_tr x.1 x.2 hl; exact ⟨_, _, _, _, hF, .one _ _ (.plain _ rfl)⟩)
noncomputable def zQu : Ct Try.prog 0 := CtR.tree 39 (List RcX × List RcX) (fun x => [trR x.1, trR x.2]) (fun x => x.1.length ≤ 9223372036854775807) (fun x => .bool (decide (x.1 = x.2))) (fun a b h => by simp only [List.cons.injEq, and_true] at h; exact Prod.ext (zAr layR h.1) (zAr layR h.2)) (fun _ => rfl)
 (fun x hl => by obtain ⟨r, hF, H, m, wr, rfl⟩ := sameRs_tr x.1 x.2 hl; exact ⟨_, _, _, _, hF, .one _ _ (.plain _ rfl)⟩)
theorem zQq (l : List RcX) (n : Int) (hl : l.length ≤ 9223372036854775807) : ∃ r, FnS Try.prog 0 32 [trR l, .int .i64 n] .e 0 r ∧ ∃ H m wr, r = .ret (.bool (l.any (bigR n))) H m wr := by
 refine zCe mixed tbTk [] Try.func32 (c := bodyOf Try.f32) (by kernel_rfl) ?_
 refine zAi (fun (i : Nat) f => ⟨slots 6 [(0, trR l), (1, .int .i64 n), (5, .int .i64 (i : Nat))] f, heap 0 [], 0, [], []⟩) (fun i => l.length - i) (fun i => i ≤ l.length ∧ l.any (bigR n) = (l.drop i).any (bigR n)) 0 ⟨Nat.zero_le _, rfl⟩ (rcq [] ⟨⟨_, rfl, zAd 8 rfl⟩, ⟨_, rfl, .int _ _⟩, ⟨_, rfl, .int _ _⟩, trivial⟩ trivial .nil) ?_
 rintro i f ⟨hi, heq⟩
 refine zAq tbTk [] 0 _ none mixed _ _ _ ?_
 refine ifK (fun h1 => ?_) (fun h1 => ?_)
 ·have h1 : i < l.length := by have := of_decide_eq_true h1; omega
  have hst : (l.drop i).any (bigR n) = (bigR n l[i] || (l.drop (i + 1)).any (bigR n)) := by rw [List.drop_eq_getElem_cons h1]; rfl
  rw [hst] at heq
  refine ifK (fun _ => ?_) (fun h2 => absurd h2 (by simp [inI]; omega))
  refine Exists.intro l[i].n (Exists.intro l[i].t (Exists.intro l[i].c (Exists.intro l[i].ttl (Exists.intro l[i].d (And.intro (zAe layR h1) ?_)))))
  refine ifK (fun h2 => ?_) (fun h2 => ?_)
  ·have e : l.any (bigR n) = true := by rw [heq]; unfold bigR; rw [h2]; rfl
   refine And.intro rfl (zAn (rcq [] (d := 6) (d2 := 0) (lv := [(4, .bool true)]) (bs := []) (W := []) (m := 0) (df := []) ⟨⟨_, rfl, zCg 8 rfl⟩, trivial⟩ trivial .nil) (fun f => ?_))
   rw [e]; exact ⟨_, _, _, rfl⟩
  ·refine ifK (fun _ => ?_) (fun h3 => absurd h3 (by simp [inI]; omega))
   refine Exists.intro l[i].n (Exists.intro l[i].t (Exists.intro l[i].c (Exists.intro l[i].ttl (Exists.intro l[i].d (And.intro (zAe layR h1) ?_)))))
   refine ifK (fun h3 => ?_) (fun h3 => ?_)
   ·have e : l.any (bigR n) = true := by rw [heq]; unfold bigR; rw [h3]; simp
    refine And.intro rfl (zAn (rcq [] (d := 6) (d2 := 0) (lv := [(4, .bool true)]) (bs := []) (W := []) (m := 0) (df := []) ⟨⟨_, rfl, zCg 8 rfl⟩, trivial⟩ trivial .nil) (fun f => ?_))
    rw [e]; exact ⟨_, _, _, rfl⟩
   ·refine ⟨i + 1, ⟨h1, ?_⟩, by omega, rcq [] ⟨⟨_, rfl, zAd 8 rfl⟩, ⟨_, rfl, .int _ _⟩, zAa rfl (by rw [wrapN (by omega) (by omega)]; omega), trivial⟩ trivial .nil⟩
    rw [heq]; unfold bigR; rw [h2, h3]; rfl
 ·have h1 : ¬ i < l.length := by have := of_decide_eq_false h1; omega
  have e : l.any (bigR n) = false := by rw [heq, List.drop_eq_nil_of_le (by omega)]; rfl
  refine And.intro rfl (zAn (rcq [] (d := 6) (d2 := 0) (lv := []) (bs := []) (W := []) (m := 0) (df := []) trivial trivial .nil) (fun f => ?_))
  rw [e]; exact ⟨_, _, _, rfl⟩
noncomputable def zNw : Ct Try.prog 0 := CtR.tree 32 (List RcX × Int) (fun x => [trR x.1, .int .i64 x.2]) (fun x => x.1.length ≤ 9223372036854775807) (fun x => .bool (x.1.any (bigR x.2))) (fun a b h => by simp only [List.cons.injEq, Value.int.injEq, true_and, and_true] at h; exact Prod.ext (zAr layR h.1) h.2) (fun _ => rfl)
 (fun x hl => by obtain ⟨r, hF, H, m, wr, rfl⟩ := zQq x.1 x.2 hl; exact ⟨_, _, _, _, hF, .one _ _ (.plain _ rfl)⟩)
structure MsT where
 id : Int
 fl : Int
 q : List QuX
 an : List RcX
 ns : List RcX
 ar : List RcX
def MsT.cs (m : MsT) : List Value := [.int .i64 m.id, .int .i64 m.fl, trQ m.q, trR m.an, trR m.ns, trR m.ar]
def MsT.v (m : MsT) : Value := .agg #[.int .i64 m.id, .int .i64 m.fl, trQ m.q, trR m.an, trR m.ns, trR m.ar]
theorem MsT.v_inj {m m' : MsT} (h : m.v = m'.v) : m = m' := by
 obtain ⟨id, fl, q, an, ns, ar⟩ := m
 obtain ⟨id', fl', q', an', ns', ar'⟩ := m'
 simp only [MsT.v, Value.agg.injEq, Array.mk.injEq, List.cons.injEq, Value.int.injEq, true_and, and_true] at h
 obtain ⟨rfl, rfl, h1, h2, h3, h4⟩ := h
 rw [zAr layQ h1, zAr layR h2, zAr layR h3, zAr layR h4]
def MsT.fit (m : MsT) (k : Nat) : Prop := m.q.length ≤ k ∧ m.an.length ≤ k ∧ m.ns.length ≤ k ∧ m.ar.length ≤ k
def MsT.len (m : MsT) : Int := IntKind.i64.wrap (IntKind.i64.wrap (IntKind.i64.wrap ((m.q.length : Int) + (m.an.length : Int)) + (m.ns.length : Int)) + (m.ar.length : Int))
def MsT.big (m : MsT) (n y : Int) : Bool := decide (m.len > n) || (m.q.any (bigQ y) || (m.an.any (bigR y) || (m.ns.any (bigR y) || m.ar.any (bigR y))))
noncomputable def tbTk2 : Tb Try.prog 0 := tbOf mixed [zNw]
theorem bigMs_tr (m : MsT) (n y : Int) (hf : m.fit 9223372036854775807) : ∃ r, FnS Try.prog 0 8 [m.v, .int .i64 n, .int .i64 y] .e 0 r ∧ ∃ H k wr, r = .ret (.bool (m.big n y)) H k wr := by
 obtain ⟨id, fl, q, an, ns, ar⟩ := m
 obtain ⟨f1, f2, f3, f4⟩ := hf
 have f1 : q.length ≤ 9223372036854775807 := f1
 refine zCe mixed tbTk2 [] Try.func8 (c := bodyOf Try.f8) (by kernel_rfl) ?_
 unfold MsT.big
 refine ifK (fun g => ?_) (fun g => ?_)
 ·have e : decide (MsT.len ⟨id, fl, q, an, ns, ar⟩ > n) = true := g
  rw [e]; exact ⟨_, _, _, rfl⟩
 have e0 : decide (MsT.len ⟨id, fl, q, an, ns, ar⟩ > n) = false := g
 rw [e0, Bool.false_or]
 refine zAi (fun (i : Nat) f => ⟨slots 6 [(2, .int .i64 y), (3, .pointer (some ⟨0, 0, none⟩)), (7, .int .i64 (i : Nat))] f, heap 1 [(0, .cells (MsT.cs ⟨id, fl, q, an, ns, ar⟩) 25)], 1, [], []⟩) (fun i => q.length - i) (fun i => i ≤ q.length ∧ q.any (bigQ y) = (q.drop i).any (bigQ y)) 0 ⟨Nat.zero_le _, rfl⟩
  (rcq [0] ⟨⟨_, rfl, .int _ _⟩, ⟨_, rfl, .ptr _ _ _ rfl⟩, ⟨_, rfl, .int _ _⟩, trivial⟩ ⟨⟨by decide, _, rfl, RO.clos rfl⟩, trivial⟩ .nil) ?_
 rintro i f ⟨hi, heq⟩
 refine zAq tbTk2 [] 0 _ none mixed _ _ _ ?_
 refine ifK (fun h1 => ?_) (fun h1 => ?_)
 ·have h1 : i < q.length := by have h1 : ((i : Nat) : Int) < (q.length : Int) := of_decide_eq_true h1; omega
  have hst : (q.drop i).any (bigQ y) = (bigQ y q[i] || (q.drop (i + 1)).any (bigQ y)) := by rw [List.drop_eq_getElem_cons h1]; rfl
  rw [hst] at heq
  refine ifK (fun _ => ?_) (fun h2 => absurd h2 (by simp [inI]; omega))
  refine Exists.intro q[i].n (Exists.intro q[i].t (Exists.intro q[i].c (And.intro (zAe layQ h1) ?_)))
  refine ifK (fun h2 => ?_) (fun h2 => ?_)
  ·have e : q.any (bigQ y) = true := by rw [heq]; unfold bigQ; rw [h2]; rfl
   refine And.intro rfl (zAn (rcq [] (d := 6) (d2 := 0) (lv := [(6, .bool true)]) (bs := []) (W := []) (m := 0) (df := []) ⟨⟨_, rfl, zCg 8 rfl⟩, trivial⟩ trivial .nil) (fun f => ?_))
   rw [e]; exact ⟨_, _, _, rfl⟩
  ·refine ⟨i + 1, ⟨h1, ?_⟩, by show q.length - (i + 1) < q.length - i; omega, rcq [0] ⟨⟨_, rfl, .int _ _⟩, ⟨_, rfl, .ptr _ _ _ rfl⟩, zAa rfl (by rw [wrapN (by omega) (by omega)]; omega), trivial⟩ ⟨⟨by decide, _, rfl, RO.clos rfl⟩, trivial⟩ .nil⟩
   rw [heq]; unfold bigQ; rw [h2]; rfl
 ·have h1 : ¬ i < q.length := fun e => absurd (show ((i : Nat) : Int) < (q.length : Int) by omega) (of_decide_eq_false h1)
  have e : q.any (bigQ y) = false := by rw [heq, List.drop_eq_nil_of_le (by omega)]; rfl
  rw [e, Bool.false_or]
  refine And.intro rfl (zAn (rcq [0] (d := 6) (d2 := 1) (lv := [(2, .int .i64 y), (3, .pointer (some ⟨0, 0, none⟩))]) (bs := [(0, .cells (MsT.cs ⟨id, fl, q, an, ns, ar⟩) 25)]) (W := []) (m := 1) (df := []) ⟨⟨_, rfl, .int _ _⟩, ⟨_, rfl, .ptr _ _ _ rfl⟩, trivial⟩ ⟨⟨by decide, _, rfl, RO.clos rfl⟩, trivial⟩ .nil) (fun f => ?_))
  refine Exists.intro (an, y) (And.intro ⟨rfl, f2⟩ ?_)
  refine ifK (fun g => ?_) (fun g => ?_)
  ·have e : an.any (bigR y) = true := g
   rw [e]; exact ⟨_, _, _, rfl⟩
  have e : an.any (bigR y) = false := g
  rw [e, Bool.false_or]
  refine Exists.intro (ns, y) (And.intro ⟨rfl, f3⟩ ?_)
  refine ifK (fun g => ?_) (fun g => ?_)
  ·have e : ns.any (bigR y) = true := g
   rw [e]; exact ⟨_, _, _, rfl⟩
  have e : ns.any (bigR y) = false := g
  rw [e, Bool.false_or]
  refine Exists.intro (ar, y) (And.intro ⟨rfl, f4⟩ ?_)
  exact ⟨_, _, _, rfl⟩
noncomputable def ct_bigMsT : Ct Try.prog 0 := CtR.tree 8 (MsT × Int × Int) (fun x => [x.1.v, .int .i64 x.2.1, .int .i64 x.2.2]) (fun x => x.1.fit 9223372036854775807) (fun x => .bool (x.1.big x.2.1 x.2.2)) (fun a b h => by simp only [List.cons.injEq, Value.int.injEq, true_and, and_true] at h; exact Prod.ext (MsT.v_inj h.1) (Prod.ext h.2.1 h.2.2)) (fun _ => rfl)
 (fun x hf => by obtain ⟨r, hF, H, k, wr, rfl⟩ := bigMs_tr x.1 x.2.1 x.2.2 hf; exact ⟨_, _, _, _, hF, .one _ _ (.plain _ rfl)⟩)
end Go.Proofs.Ytknpgjeclmadkaa
namespace Go.Proofs.Ytknpgjeclmadkaa
open Go Go.RowKit
theorem count_tr (l : List RcX) (hl : l.length ≤ 4611686018427387903) : ∃ r, FnS Try.prog 0 34 [trR l] .e 0 r ∧ ∃ H m wr, r = .ret (.int .i64 (cntO l : Int)) H m wr := by
 refine zCe mixed tbEd [] Try.func34 (c := bodyOf Try.f34) (by kernel_rfl) ?_
 refine cw_blur (rcq [0, 1] (d := 4) (d2 := 2) (lv := [(3, .pointer (some ⟨0, 0, none⟩)), (5, .func (.func 61) #[] #[.pointer (some ⟨1, 0, none⟩)])]) (bs := [(0, .cells [.int .i64 0] 3), (1, .cells [trR l] 23)]) (W := []) (m := 2) (df := []) ⟨⟨_, rfl, .ptr _ _ _ rfl⟩, ⟨_, rfl, .func _ _ _ _ _ rfl .nil (.cons _ _ _ _ (.ptr _ _ _ rfl) .nil)⟩, trivial⟩ ⟨bpo rfl, ⟨by decide, _, rfl, RO.clos rfl⟩, trivial⟩ .nil) (fun g hg => ?_)
 refine zMf 2 3 4 rfl rfl l 1 (trR l) 23 [0] (fun i => heap 3 [(0, .cells [.int .i64 (cntO (l.take i) : Int)] 3), (1, .cells [trR l] 23), (2, .defs)]) (fun _ => 4) l.length none rfl rfl rfl (by decide) hl (by decide) (zQh ?_ fun t => (hg t).mono (Nat.zero_le _)) rfl (.inr (.inr rfl)) ?_ ?_ (fun _ _ => Nat.le_refl 4) ?_ ?_ rfl ?_
 ·intro p hp
  simp only [List.mem_cons, List.not_mem_nil, or_false] at hp
  rcases hp with rfl | rfl
  ·exact KpV.ptr (by decide)
  ·exact KpV.fn (by simp) (by simp only [List.mem_cons, List.not_mem_nil, or_false]; rintro v rfl; exact KpV.ptr (by decide))
 ·exact zIu (d := 4) (lv := []) (rcq [] trivial ⟨bpo rfl, ⟨by decide, _, rfl, RO.clos rfl⟩, ⟨by decide, _, rfl, .defs⟩, trivial⟩ .nil)
 ·intro i hi
  refine zEv fun p hp r e => ?_
  simp only [List.mem_cons, List.not_mem_nil, or_false] at hp
  rcases hp with rfl | rfl | rfl <;> cases e
 ·intro i h him h41
  refine ⟨_, rfl, ?_⟩
  refine zAq tbEd [] 4 _ (some 3) mixed _ _ _ ?_
  refine ⟨rfl, ?_, ?_⟩
  ·refine zEv fun p hp r e => ?_
   simp only [List.mem_cons, List.not_mem_nil, or_false] at hp
   rcases hp with rfl | rfl | rfl <;> cases e
  refine zAq tbEd [] 4 _ (some 3) mixed _ _ _ ?_
  refine ⟨rfl, ?_⟩
  have e := cntO_in l i h
  have hc := cntO_le l i
  rw [if_pos h41] at e
  rw [e]
  exact zIu (d := 4) (lv := []) (zEl [] rfl rfl rfl (fun l e => by cases e; decide) (by decide) (by decide) rfl rfl (zRo rfl) trivial ⟨⟨by decide, _, rfl, zDs (by rw [wrapN (by omega) (by omega)]; rfl) rfl⟩, ⟨by decide, _, rfl, RO.clos rfl⟩, ⟨by decide, _, rfl, .defs⟩, trivial⟩ .nil)
 ·intro i h him h41
  have e := cntO_in l i h
  rw [if_neg h41] at e
  simp only [e, and_self]
 ·have e : cntO (l.take l.length) = cntO l := by rw [List.take_length]
  rw [← e]
  exact ⟨_, _, _, rfl⟩
noncomputable def ct_countT : Ct Try.prog 0 := CtR.tree 34 (List RcX) (fun l => [trR l]) (fun l => l.length ≤ 4611686018427387903) (fun l => .int .i64 (cntO l : Int)) (fun a b h => by simp only [List.cons.injEq, and_true] at h; exact zAr layR h) (fun _ => rfl)
 (fun l hl => by obtain ⟨r, hF, H, m, wr, rfl⟩ := count_tr l hl; exact ⟨_, _, _, _, hF, .one _ _ (.plain _ rfl)⟩)
end Go.Proofs.Ytknpgjeclmadkaa
namespace Go.Proofs.Ytknpgjeclmadkaa
open Go Go.RowKit
def LtL {α : Type} (L : Lay α) (H : Tr AObj) (v : Value) (l : List α) : Prop :=
 (v = .slice none 0 0 ∧ l = []) ∨ (∃ b c post, v = .slice (some ⟨b, 0, none⟩) l.length c ∧ b < JJ ∧ (c = U ∨ (l.length ≤ c ∧ c ≤ maxLen)) ∧ H.get b = some (.cells (l.flatMap L.g ++ post) L.t)) ∨ v = treeV L.k l.length (l.flatMap L.g) ∨ (∃ b, v = .slice (some ⟨b, 0, none⟩) 0 0 ∧ l = [])
theorem LtL.nil {α : Type} (L : Lay α) (H : Tr AObj) : LtL L H (.slice none 0 0) [] := .inl ⟨rfl, rfl⟩
theorem LtL.tree {α : Type} (L : Lay α) (H : Tr AObj) (l : List α) : LtL L H (treeV L.k l.length (l.flatMap L.g)) l := .inr (.inr (.inl rfl))
theorem LtL.own {α : Type} (L : Lay α) {H : Tr AObj} {b c : Nat} {l : List α} {cs : List Value} (post : List Value) (hb : b < JJ) (hc : c = U ∨ (l.length ≤ c ∧ c ≤ maxLen)) (h : H.get b = some (.cells cs L.t)) (e : cs = l.flatMap L.g ++ post) : LtL L H (.slice (some ⟨b, 0, none⟩) l.length c) l := .inr (.inl ⟨b, c, post, rfl, hb, hc, by rw [h, e]⟩)
theorem LtL.uniq {α : Type} {L : Lay α} {H : Tr AObj} {v : Value} {l l' : List α} (h : LtL L H v l) (k : LtL L H v l') : l = l' := by
 rcases h with ⟨rfl, rfl⟩ | ⟨b, c, post, rfl, _, _, h⟩ | rfl | ⟨b, rfl, rfl⟩
 ·rcases k with ⟨_, rfl⟩ | ⟨_, _, _, e, _⟩ | e | ⟨_, e, _⟩
  ·rfl
  ·cases e
  ·cases e
  ·cases e
 ·rcases k with ⟨e, _⟩ | ⟨b', c', post', e, _, _, k⟩ | e | ⟨_, e, rfl⟩
  ·cases e
  ·simp only [Value.slice.injEq, Option.some.injEq, Addr.mk.injEq, and_true] at e
   obtain ⟨rfl, e1, _⟩ := e
   rw [h] at k
   simp only [Option.some.injEq, AObj.cells.injEq, and_true] at k
   exact L.flat_inj _ _ (List.append_inj k (by rw [zAb L.g L.k L.len, zAb L.g L.k L.len, e1])).1
  ·cases e
  ·simp only [Value.slice.injEq] at e
   exact List.eq_nil_of_length_eq_zero e.2.1
 ·rcases k with ⟨e, _⟩ | ⟨_, _, _, e, _⟩ | e | ⟨_, e, _⟩
  ·cases e
  ·cases e
  ·exact zAr L e
  ·cases e
 ·rcases k with ⟨e, _⟩ | ⟨_, _, _, e, _⟩ | e | ⟨_, _, rfl⟩
  ·cases e
  ·simp only [Value.slice.injEq] at e
   exact (List.eq_nil_of_length_eq_zero e.2.1.symm).symm
  ·cases e
  ·rfl
theorem LtL.frz {P : Program} {α : Type} {L : Lay α} {H : Tr AObj} {v : Value} {l : List α} (hz : (P.info? L.t).map (·.size) = some L.k) (h : LtL L H v l) : FrzP True P 0 H v (treeV L.k l.length (l.flatMap L.g)) := by
 rcases h with ⟨rfl, rfl⟩ | ⟨b, c, post, rfl, hb, hc, h⟩ | rfl | ⟨b, rfl, rfl⟩
 ·exact .one _ _ (.nil _)
 ·have hlen := zAb L.g L.k L.len l
  refine .one _ _ (.sl b 0 l.length c L.t L.k _ _ ⟨Nat.zero_le _, hb⟩ h hz hc (by rw [List.length_append, hlen]; omega) ?_)
  rw [List.drop_zero, List.take_left' hlen]
  exact FzPL.refl (zAc L.g L.plain l)
 ·exact .one _ _ (.deep _ _ _ _ _ _ trivial)
 ·exact .one _ _ (.se _ _ _)
def capO {α : Type} (l : List α) : Nat := match l with
 | [] => 0
 | _ :: _ => U
def ownV {α : Type} (b : Nat) (l : List α) : Value := .slice (some ⟨b, 0, none⟩) l.length (capO l)
def ownT {α : Type} (e0 e : TypeId) (l : List α) : TypeId := match l with
 | [] => e0
 | _ :: _ => e
def ownB {α : Type} (L : Lay α) (e0 : TypeId) (l : List α) : AObj := .cells (l.flatMap L.g) (ownT e0 L.t l)
theorem LtL.ownV {α : Type} (L : Lay α) {H : Tr AObj} {b : Nat} {e0 : TypeId} (l : List α) (hb : b < JJ) (h : H.get b = some (ownB L e0 l)) : LtL L H (ownV b l) l := by
 cases l with
 | nil => exact .inr (.inr (.inr ⟨b, rfl, rfl⟩))
 | cons x l => exact LtL.own L [] hb (.inl rfl) h (by rw [List.append_nil])
def OwnR {α : Type} (L : Lay α) (e0 : TypeId) (H : Tr AObj) (v : Value) (l : List α) : Prop :=
 (v = .slice none 0 0 ∧ l = [] ∧ ∃ b cs, b < JJ ∧ H.get b = some (.cells cs e0)) ∨ ∃ b, v = .slice (some ⟨b, 0, none⟩) l.length U ∧ b < JJ ∧ l ≠ [] ∧ H.get b = some (.cells (l.flatMap L.g) L.t)
theorem OwnR.frz {dp : Prop} {P : Program} {α : Type} {L : Lay α} {e0 : TypeId} {H : Tr AObj} {v : Value} {l : List α} (hz : (P.info? L.t).map (·.size) = some L.k) (h : OwnR L e0 H v l) : FrzP dp P 0 H v (treeV L.k l.length (l.flatMap L.g)) := by
 rcases h with ⟨rfl, rfl, _⟩ | ⟨b, rfl, hb, _, h⟩
 ·exact .one _ _ (.nil _)
 ·exact .one _ _ (zHq L l hb h hz rfl rfl)
theorem OwnR.call {P : Program} {f : FuncId} {args targs : List Value} {v0 : Value} {H' : Tr AObj} {n' : Nat} {wr : List Nat} {α : Type} {L : Lay α} {e0 : TypeId} {l : List α} (hF : FnS P 0 f targs .e 0 (.ret v0 H' n' wr)) {H : Tr AObj} {n : Nat} (ha : FrL P 0 H args targs) (he : P.underlying e0 ≠ some (.int .u8)) (h : OwnR L e0 H' v0 l) :
  CallOK P 0 f args H n (.ret (ownV n l) (H.set n (some (ownB L e0 l))) (n + 1) []) := by
 rcases h with ⟨rfl, rfl, b, cs, hb, h⟩ | ⟨b, rfl, hb, hl, h⟩
 ·refine zAu (fun n => ownV n ([] : List α)) [b] [([], e0)] hF ha (by simp) (fun x hx => by simp at hx; subst hx; exact hb) rfl (fun i b' xs e hb' hc => ?_) (fun n => .nl b 0 n (zAh (i := 0) (by simp) rfl))
  match i, hb', hc with
  | 0, hb', hc => cases hb'; cases hc; exact ⟨cs, h, rfl, .inr he⟩
  | i + 1, hb', hc => simp at hb'
 ·cases l with
  | nil => exact absurd rfl hl
  | cons x l =>
   refine zAu (fun n => ownV n (x :: l)) [b] [((x :: l).flatMap L.g, L.t)] hF ha (by simp) (fun y hy => by simp at hy; subst hy; exact hb) rfl (fun i b' xs e hb' hc => ?_) (fun n => .sl _ _ _ _ _ (zAh (i := 0) (by simp) rfl))
   match i, hb', hc with
   | 0, hb', hc => cases hb'; cases hc; exact ⟨[], by rw [List.append_nil]; exact h, zAc L.g L.plain _, .inl rfl⟩
   | i + 1, hb', hc => simp at hb'
structure LtM where
 m : MsT
 q : Value
 an : Value
 ns : Value
 ar : Value
def LtM.v (x : LtM) : Value := .agg #[.int .i64 x.m.id, .int .i64 x.m.fl, x.q, x.an, x.ns, x.ar]
def LtM.at (x : LtM) (H : Tr AObj) : Prop := LtL layQ H x.q x.m.q ∧ LtL layR H x.an x.m.an ∧ LtL layR H x.ns x.m.ns ∧ LtL layR H x.ar x.m.ar
theorem LtM.uniq {x y : LtM} {H : Tr AObj} (e : x.v = y.v) (h : x.at H) (k : y.at H) : x = y := by
 obtain ⟨⟨i, f, q, a, n, r⟩, vq, va, vn, vr⟩ := x
 obtain ⟨⟨i', f', q', a', n', r'⟩, vq', va', vn', vr'⟩ := y
 simp only [LtM.v, Value.agg.injEq, Array.mk.injEq, List.cons.injEq, Value.int.injEq, true_and, and_true] at e
 obtain ⟨rfl, rfl, rfl, rfl, rfl, rfl⟩ := e
 obtain ⟨h1, h2, h3, h4⟩ := h
 obtain ⟨k1, k2, k3, k4⟩ := k
 have e1 : q = q' := h1.uniq k1
 have e2 : a = a' := h2.uniq k2
 have e3 : n = n' := h3.uniq k3
 have e4 : r = r' := h4.uniq k4
 subst e1; subst e2; subst e3; subst e4; rfl
theorem LtM.frz {x : LtM} {H : Tr AObj} (h : x.at H) : FrzP True Try.prog 0 H x.v x.m.v := by
 obtain ⟨h1, h2, h3, h4⟩ := h
 exact .agg _ _ (.cons _ _ _ _ (.one _ _ (.plain _ rfl)) (.cons _ _ _ _ (.one _ _ (.plain _ rfl)) (.cons _ _ _ _ (h1.frz (by kernel_rfl)) (.cons _ _ _ _ (h2.frz (by kernel_rfl)) (.cons _ _ _ _ (h3.frz (by kernel_rfl)) (.cons _ _ _ _ (h4.frz (by kernel_rfl)) .nil))))))
def MsT.lt (m : MsT) : LtM := ⟨m, trQ m.q, trR m.an, trR m.ns, trR m.ar⟩
theorem MsT.lt_at (m : MsT) (H : Tr AObj) : m.lt.at H := ⟨.tree _ _ _, .tree _ _ _, .tree _ _ _, .tree _ _ _⟩
end Go.Proofs.Ytknpgjeclmadkaa
namespace Go.Proofs.Ytknpgjeclmadkaa
open Go Go.RowKit
def woT (l : List RcX) (o : List RcX) (fr : Nat) : Tr AObj := match o with
 | [] => heap 4 [(0, .cells [trR l] 23), (1, .cells [.slice none 0 0] 23), (2, .cells [.int .i64 (fr : Int)] 3), (3, .cells [trR l] 23), (4, .defs)]
 | x :: o => heap 4 [(0, .cells [trR l] 23), (1, .cells [.slice (some ⟨6, 0, none⟩) (o.length + 1) U] 23), (2, .cells [.int .i64 (fr : Int)] 3), (3, .cells [trR l] 23), (4, .defs), (6, .cells ((x :: o).flatMap layR.g) 48)]
def woM (o : List RcX) : Nat := match o with
 | [] => 6
 | _ :: _ => 7
theorem zGy (l o : List RcX) (fr : Nat) : zFp (woT l o fr) := by
 cases o <;>
 ·refine zEv fun p hp r e => ?_
  simp only [List.mem_cons, List.not_mem_nil, or_false] at hp
  rcases hp with rfl | rfl | rfl | rfl | rfl | rfl <;> cases e
theorem zRn (l : List RcX) (hl : l.length ≤ 1000000000) : ∃ r, FnS Try.prog 0 46 [trR l] .e 0 r ∧ ∃ v H m wr, r = .ret v H m wr ∧ OwnR layR 23 H v (l.filter nop) := by
 refine zCe mixed tbEd [] Try.func46 (c := bodyOf Try.f46) (by kernel_rfl) ?_
 refine cw_blur (rcq [0, 1, 2, 3] (d := 5) (d2 := 3) (lv := [(1, .pointer (some ⟨0, 0, none⟩)), (3, .pointer (some ⟨1, 0, none⟩)), (4, .pointer (some ⟨2, 0, none⟩)), (7, .func (.func 61) #[] #[.pointer (some ⟨3, 0, none⟩)])]) (bs := [(0, .cells [trR l] 23), (1, .cells [.slice none 0 0] 23), (2, .cells [.int .i64 0] 3), (3, .cells [trR l] 23)]) (W := []) (m := 4) (df := []) ⟨⟨_, rfl, .ptr _ _ _ rfl⟩, ⟨_, rfl, .ptr _ _ _ rfl⟩, ⟨_, rfl, .ptr _ _ _ rfl⟩, ⟨_, rfl, .func _ _ _ _ _ rfl .nil (.cons _ _ _ _ (.ptr _ _ _ rfl) .nil)⟩, trivial⟩ ⟨⟨by decide, _, rfl, RO.clos rfl⟩, bpo rfl, bpo rfl, ⟨by decide, _, rfl, RO.clos rfl⟩, trivial⟩ .nil) (fun g hg => ?_)
 refine zMf 4 5 6 rfl rfl l 3 (trR l) 23 [1, 2] (fun i => woT l (outO l i) (fromO l i)) (fun i => woM (outO l i)) l.length none rfl rfl rfl (by decide) (by omega) (by decide) (zQh ?_ fun t => (hg t).mono (Nat.zero_le _)) rfl (.inr (.inr rfl)) ?_ (fun i _ => zGy _ _ _) ?_ ?_ ?_ rfl ?_
 ·intro p hp
  simp only [List.mem_cons, List.not_mem_nil, or_false] at hp
  rcases hp with rfl | rfl | rfl | rfl
  ·exact KpV.ptr (by decide)
  ·exact KpV.ptr (by decide)
  ·exact KpV.ptr (by decide)
  ·exact KpV.fn (by simp) (by simp only [List.mem_cons, List.not_mem_nil, or_false]; rintro v rfl; exact KpV.ptr (by decide))
 ·refine zIu (d := 5) (lv := []) (n := 6) (H := heap 4 [(0, .cells [trR l] 23), (1, .cells [.slice none 0 0] 23), (2, .cells [.int .i64 0] 3), (3, .cells [trR l] 23), (4, .defs)]) ?_
  exact rcq [] trivial ⟨⟨by decide, _, rfl, RO.clos rfl⟩, bpo rfl, bpo rfl, ⟨by decide, _, rfl, RO.clos rfl⟩, ⟨by decide, _, rfl, .defs⟩, trivial⟩ .nil
 ·intro i _
  show 6 ≤ woM (outO l i)
  cases outO l i <;> simp [woM]
 ·intro i h him h41
  obtain ⟨e1, e2⟩ := outO_step l i h h41
  have hfr := zHp l i
  show RoundS Try.prog 6 _ 5 _ _ _ _ _ i _ (woT l (outO l i) (fromO l i)) (woM (outO l i)) .normal (woT l (outO l (i + 1)) (fromO l (i + 1))) (woM (outO l (i + 1)))
  rw [e1, e2]
  refine ⟨_, rfl, ?_⟩
  have ho : (outO l i).length ≤ 1000000000 := by unfold outO; exact Nat.le_trans (List.length_filter_le _ _) (by rw [List.length_take]; omega)
  generalize fromO l i = fr at hfr ⊢
  generalize outO l i = o at ho ⊢
  have hz : (Try.prog.types[48]).size = 5 := by kernel_rfl
  have hby : (Try.prog.types[48]).bytes ≤ 100 := by decide +kernel
  have hwr : [Value.int .i64 (IntKind.i64.wrap ((i : Int) + 1))] = [Value.int .i64 ((i + 1 : Nat) : Int)] := by rw [wrapN (by omega) (by omega)]; rfl
  have hpl2 : ((l.drop fr).take (i - fr)).length = i - fr := by rw [List.length_take, List.length_drop]; omega
  cases o with
  | nil =>
   refine zAq tbEd [] 6 _ (some 5) mixed _ _ _ ?_
   refine ⟨rfl, zGy l [] fr, ?_⟩
   refine zAq tbEd [] 6 _ (some 5) mixed _ _ _ ?_
   refine And.intro (by kernel_rfl) ?_
   refine And.intro (by simp only [inLH, Bool.and_eq_true, decide_eq_true_eq]; and_intros <;> omega) ?_
   refine Exists.intro (i - fr) (Exists.intro (((l.drop fr).take (i - fr)).flatMap layR.g) (And.intro ⟨by omega, zJi layR l _ _⟩ ?_))
   refine ifK (fun h0 => ?_) (fun h0 => ?_)
   ·have hif : i - fr = 0 := Nat.eq_of_beq_eq_true h0
    have hp0 : [] ++ (l.drop fr).take (i - fr) = ([] : List RcX) := by rw [hif]; simp
    rw [hp0]
    refine ⟨rfl, zIu (d := 5) (lv := []) (n := 6) (H := heap 4 [(0, .cells [trR l] 23), (1, .cells [.slice none 0 0] 23), (2, .cells [.int .i64 ((i + 1 : Nat) : Int)] 3), (3, .cells [trR l] 23), (4, .defs)]) ?_⟩
    exact zEl [] rfl rfl rfl (fun l e => by cases e; decide) (by decide) (by decide) rfl rfl (zRo rfl) trivial ⟨⟨by decide, _, rfl, RO.clos rfl⟩, bpo rfl, ⟨by decide, _, rfl, zDs hwr rfl⟩, ⟨by decide, _, rfl, RO.clos rfl⟩, ⟨by decide, _, rfl, .defs⟩, trivial⟩ .nil
   ·have hif : i - fr ≠ 0 := fun e => by rw [e] at h0; simp at h0
    refine And.intro (by simp only [Bool.and_eq_true, decide_eq_true_eq]; have := Nat.mul_le_mul_right (Try.prog.types[48]).bytes (show i - fr ≤ 1000000000 by omega); and_intros <;> omega) ?_
    rw [List.nil_append]
    cases hp : (l.drop fr).take (i - fr) with
    | nil => rw [hp] at hpl2; simp at hpl2; omega
    | cons y ys =>
     rw [hp] at hpl2
     have hln : i - fr = ys.length + 1 := by simp at hpl2; omega
     refine ⟨rfl, zIu (d := 5) (lv := []) (n := 7) (H := heap 4 [(0, .cells [trR l] 23), (1, .cells [.slice (some ⟨6, 0, none⟩) (ys.length + 1) U] 23), (2, .cells [.int .i64 ((i + 1 : Nat) : Int)] 3), (3, .cells [trR l] 23), (4, .defs), (6, .cells ((y :: ys).flatMap layR.g) 48)]) ?_⟩
     exact zEl [6] rfl rfl rfl (fun l e => by cases e; decide) (by decide) (by decide) rfl rfl (zRo rfl) trivial ⟨⟨by decide, _, rfl, RO.clos rfl⟩, ⟨by decide, _, rfl, by rw [hln]; exact zLk rfl⟩, ⟨by decide, _, rfl, zDs hwr rfl⟩, ⟨by decide, _, rfl, RO.clos rfl⟩, ⟨by decide, _, rfl, .defs⟩, bpo (zAc layR.g layR.plain (y :: ys)), trivial⟩ .nil
  | cons x o =>
   refine zAq tbEd [] 6 _ (some 5) mixed _ _ _ ?_
   refine ⟨rfl, zGy l (x :: o) fr, ?_⟩
   refine zAq tbEd [] 6 _ (some 5) mixed _ _ _ ?_
   refine And.intro (by kernel_rfl) ?_
   refine And.intro (by simp only [inLH, Bool.and_eq_true, decide_eq_true_eq]; and_intros <;> omega) ?_
   refine Exists.intro (i - fr) (Exists.intro (((l.drop fr).take (i - fr)).flatMap layR.g) (And.intro ⟨by omega, zJi layR l _ _⟩ ?_))
   refine ifK (fun h0 => ?_) (fun h0 => ?_)
   ·have hif : i - fr = 0 := Nat.eq_of_beq_eq_true h0
    have hp0 : (x :: o) ++ (l.drop fr).take (i - fr) = x :: o := by rw [hif]; simp
    rw [hp0]
    refine ⟨rfl, zIu (d := 5) (lv := []) (n := 7) (H := heap 4 [(0, .cells [trR l] 23), (1, .cells [.slice (some ⟨6, 0, none⟩) (o.length + 1) U] 23), (2, .cells [.int .i64 ((i + 1 : Nat) : Int)] 3), (3, .cells [trR l] 23), (4, .defs), (6, .cells ((x :: o).flatMap layR.g) 48)]) ?_⟩
    exact zEl [6] rfl rfl rfl (fun l e => by cases e; decide) (by decide) (by decide) rfl rfl (zRo rfl) trivial ⟨⟨by decide, _, rfl, RO.clos rfl⟩, ⟨by decide, _, rfl, zLk rfl⟩, ⟨by decide, _, rfl, zDs hwr rfl⟩, ⟨by decide, _, rfl, RO.clos rfl⟩, ⟨by decide, _, rfl, .defs⟩, bpo (zAc layR.g layR.plain (x :: o)), trivial⟩ .nil
   ·have hif : i - fr ≠ 0 := fun e => by rw [e] at h0; simp at h0
    have hol : (x :: o).length ≤ 1000000000 := ho
    have hlen : ((x :: o).flatMap layR.g).length = (o.length + 1) * 5 := zAb layR.g 5 layR.len (x :: o)
    have hlen2 : (((l.drop fr).take (i - fr)).flatMap layR.g).length = (i - fr) * 5 := by rw [zAb layR.g 5 layR.len, hpl2]
    refine And.intro ?_ ?_
    ·simp only [Bool.and_eq_true, decide_eq_true_eq]
     have hol : o.length + 1 ≤ 1000000000 := hol
     have := Nat.mul_le_mul (show o.length + 1 + (i - fr) ≤ 2000000000 by omega) hby
     refine ⟨⟨⟨⟨⟨⟨rfl, rfl⟩, Nat.ble_eq_true_of_le ?_⟩, zPs (fun _ => rfl) _⟩, ?_⟩, ?_⟩, Nat.ble_eq_true_of_le ?_⟩
     ·rw [hz, hlen]; exact Nat.le_refl _
     ·omega
     ·omega
     ·rw [hz, hlen, hlen2]; omega
    have hnew : (((x :: o).flatMap layR.g).take ((o.length + 1) * (Try.prog.types[48]).size) ++ ((l.drop fr).take (i - fr)).flatMap layR.g) = (x :: (o ++ (l.drop fr).take (i - fr))).flatMap layR.g := by
     rw [hz, List.take_of_length_le (by rw [hlen]; exact Nat.le_refl _), ← List.flatMap_append]; rfl
    have hn2 : o.length + 1 + (i - fr) = (o ++ (l.drop fr).take (i - fr)).length + 1 := by rw [List.length_append, hpl2]; omega
    refine ⟨rfl, zIu (d := 5) (lv := []) (n := 7) (H := heap 4 [(0, .cells [trR l] 23), (1, .cells [.slice (some ⟨6, 0, none⟩) ((o ++ (l.drop fr).take (i - fr)).length + 1) U] 23), (2, .cells [.int .i64 ((i + 1 : Nat) : Int)] 3), (3, .cells [trR l] 23), (4, .defs), (6, .cells ((x :: (o ++ (l.drop fr).take (i - fr))).flatMap layR.g) 48)]) ?_⟩
    exact zEl [7] rfl rfl rfl (fun l e => by cases e; decide) (by decide) (by decide) rfl rfl (zRo rfl) trivial ⟨⟨by decide, _, rfl, RO.clos rfl⟩, ⟨by decide, _, rfl, by rw [hn2]; exact zLk rfl⟩, ⟨by decide, _, rfl, zDs hwr rfl⟩, ⟨by decide, _, rfl, RO.clos rfl⟩, ⟨by decide, _, rfl, .defs⟩, ⟨by decide, _, rfl, zDs hnew (zAc layR.g layR.plain _)⟩, trivial⟩ .nil
 ·intro i h him h41
  obtain ⟨e1, e2⟩ := outO_skip l i h h41
  simp only [e1, e2, and_self]
 ·have hend := outO_end l
  have hfr := zHp l l.length
  have ho : (outO l l.length).length ≤ 1000000000 := by unfold outO; exact Nat.le_trans (List.length_filter_le _ _) (by rw [List.length_take]; omega)
  have hz : (Try.prog.types[48]).size = 5 := by kernel_rfl
  have hz' : (Try.prog.info? 48).map (·.size) = some 5 := by kernel_rfl
  have hby : (Try.prog.types[48]).bytes ≤ 100 := by decide +kernel
  have hn : l.length - fromO l l.length = (l.drop (fromO l l.length)).length := by rw [List.length_drop]
  have hpt : ((l.flatMap layR.g).drop (fromO l l.length * 5)).take ((l.length - fromO l l.length) * 5) = (l.drop (fromO l l.length)).flatMap layR.g := by
   rw [show (5 : Nat) = layR.k from rfl, zJi layR, List.take_of_length_le (by rw [List.length_drop]; omega)]
  generalize outO l l.length = o at hend ho ⊢
  generalize fromO l l.length = fr at hend hfr hn hpt ⊢
  cases o with
  | nil =>
   refine And.intro (by kernel_rfl) ?_
   refine And.intro (by simp only [inLH, Bool.and_eq_true, decide_eq_true_eq]; and_intros <;> omega) ?_
   refine Exists.intro (l.length - fr) (Exists.intro ((l.drop fr).flatMap layR.g) (And.intro ⟨by omega, hpt⟩ ?_))
   refine ifK (fun h0 => ?_) (fun h0 => ?_)
   ·have hif : l.length - fr = 0 := Nat.eq_of_beq_eq_true h0
    refine ⟨_, _, _, _, rfl, ?_⟩
    rw [hend, show l.drop fr = [] from List.drop_eq_nil_of_le (by omega)]
    exact .inl ⟨rfl, rfl, 0, _, by decide, rfl⟩
   ·refine And.intro (by simp only [Bool.and_eq_true, decide_eq_true_eq]; have := Nat.mul_le_mul_right (Try.prog.types[48]).bytes (show l.length - fr ≤ 1000000000 by omega); and_intros <;> omega) ?_
    refine ⟨_, _, _, _, rfl, ?_⟩
    rw [hend, List.nil_append]
    exact .inr ⟨_, congrArg (fun n => Value.slice (some ⟨_, 0, none⟩) n U) hn, by decide, fun e => by rw [e] at hn; rw [hn] at h0; exact absurd h0 (by decide), rfl⟩
  | cons x o =>
   have hol : (x :: o).length ≤ 1000000000 := ho
   have hlen : ((x :: o).flatMap layR.g).length = (o.length + 1) * 5 := zAb layR.g 5 layR.len (x :: o)
   have hlen2 : ((l.drop fr).flatMap layR.g).length = (l.length - fr) * 5 := by rw [zAb layR.g 5 layR.len, hn]
   refine And.intro (by kernel_rfl) ?_
   refine And.intro (by simp only [inLH, Bool.and_eq_true, decide_eq_true_eq]; and_intros <;> omega) ?_
   refine Exists.intro (l.length - fr) (Exists.intro ((l.drop fr).flatMap layR.g) (And.intro ⟨by omega, hpt⟩ ?_))
   refine ifK (fun h0 => ?_) (fun h0 => ?_)
   ·have hif : l.length - fr = 0 := Nat.eq_of_beq_eq_true h0
    refine ⟨_, _, _, _, rfl, ?_⟩
    rw [hend, show l.drop fr = [] from List.drop_eq_nil_of_le (by omega), List.append_nil]
    exact .inr ⟨_, rfl, by decide, by simp, rfl⟩
   ·have hif : l.length - fr ≠ 0 := fun e => by rw [e] at h0; simp at h0
    refine And.intro ?_ ?_
    ·simp only [Bool.and_eq_true, decide_eq_true_eq]
     have hol : o.length + 1 ≤ 1000000000 := hol
     have := Nat.mul_le_mul (show o.length + 1 + (l.length - fr) ≤ 2000000000 by omega) hby
     refine ⟨⟨⟨⟨⟨⟨rfl, rfl⟩, Nat.ble_eq_true_of_le ?_⟩, zPs (fun _ => rfl) _⟩, ?_⟩, ?_⟩, Nat.ble_eq_true_of_le ?_⟩
     ·rw [hz, hlen]; exact Nat.le_refl _
     ·omega
     ·omega
     ·rw [hz, hlen, hlen2]; omega
    have hnew : (((x :: o).flatMap layR.g).take ((o.length + 1) * (Try.prog.types[48]).size) ++ (l.drop fr).flatMap layR.g) = ((x :: o) ++ l.drop fr).flatMap layR.g := by
     rw [hz, List.take_of_length_le (by rw [hlen]; exact Nat.le_refl _), ← List.flatMap_append]
    have hn2 : o.length + 1 + (l.length - fr) = ((x :: o) ++ l.drop fr).length := by rw [List.length_append, ← hn]; rfl
    refine ⟨_, _, _, _, rfl, ?_⟩
    rw [hend]
    exact .inr ⟨_, congrArg (fun n => Value.slice (some ⟨_, 0, none⟩) n U) hn2, by decide, by simp, Eq.trans rfl (congrArg (fun c => some (AObj.cells c 48)) hnew)⟩
noncomputable def zNx : Ct Try.prog 0 :=
 CtR.ct { f := 46, X := List RcX × Value, pre := fun x a H _ => a = [x.2] ∧ LtL layR H x.2 x.1 ∧ x.1.length ≤ 1000000000, out := fun x H n => .ret (ownV n (x.1.filter nop)) (H.set n (some (ownB layR 23 (x.1.filter nop)))) (n + 1) [],
          ok := fun x as0 H n ⟨h1, h2, h3⟩ => by
           subst h1
           obtain ⟨r, hF, v, H', m, wr, rfl, hz⟩ := zRn x.1 h3
           exact hz.call hF (.cons _ _ _ _ (h2.frz (by kernel_rfl)) .nil) (by rw [show Try.prog.underlying 23 = some (.slice 48) by kernel_rfl]; simp),
          uniq := fun x x' a H m ⟨h1, h2, _⟩ ⟨k1, k2, _⟩ => by
           obtain ⟨l, v⟩ := x
           obtain ⟨l', v'⟩ := x'
           rw [h1] at k1
           simp only [List.cons.injEq, and_true] at k1
           subst k1
           have e : l = l' := h2.uniq k2
           subst e; rfl }
end Go.Proofs.Ytknpgjeclmadkaa
namespace Go.Proofs.Ytknpgjeclmadkaa
open Go Go.RowKit
structure OpX where
 c : Int
 d : ByteArray
def layO : Lay OpX where
 g x := [.int .i64 x.c, .string x.d]
 k := 2
 t := 60
 len _ := rfl
 pos := by decide
 plain _ := rfl
 inj x y h := by
  obtain ⟨c, d⟩ := x
  obtain ⟨c', d'⟩ := y
  simp only [List.cons.injEq, Value.int.injEq, Value.string.injEq, true_and, and_true] at h
  rw [h.1, h.2]
abbrev trO (l : List OpX) : Value := treeV 2 l.length (l.flatMap layO.g)
def opSz (B : Bl) (i : Nat) : Nat := beN ((B.drop (i + 2)).take 2)
def opAt (B : Bl) (i : Nat) : OpX := ⟨(beN ((B.drop i).take 2) : Nat), ⟨((B.drop (i + 4)).take (opSz B i)).toArray⟩⟩
def optF (B : Bl) : Nat → Nat → List OpX → Option (List OpX)
 | 0, _, _ => none
 | f + 1, i, out => if B.length ≤ i then some out else if i + 4 ≤ B.length ∧ i + 4 + opSz B i ≤ B.length then optF B f (i + 4 + opSz B i) (out ++ [opAt B i]) else none
def optL (B : Bl) : Option (List OpX) := optF B (B.length + 1) 0 []
def optV : Option (List OpX) → Value
 | none => .tuple #[trO [], .bool false]
 | some l => .tuple #[trO l, .bool true]
def opInv (B : Bl) (p : Nat × List OpX) : Prop := (∃ f, B.length < f + p.1 ∧ optL B = optF B f p.1 p.2) ∧ p.2.length ≤ p.1 ∧ p.1 ≤ B.length
theorem opInv.start (B : Bl) : opInv B (0, []) := ⟨⟨B.length + 1, by show _ < _; omega, rfl⟩, Nat.le_refl _, Nat.zero_le _⟩
theorem opInv.done {B : Bl} {i : Nat} {o : List OpX} (h : opInv B (i, o)) (hi : ¬ i < B.length) : optL B = some o := by
 obtain ⟨⟨f, h1, h2⟩, _, h4⟩ := h
 have h1 : B.length < f + i := h1
 have h4 : i ≤ B.length := h4
 cases f with
 | zero => omega
 | succ f => rw [h2]; unfold optF; rw [if_pos (by show B.length ≤ i; omega)]
theorem opInv.bad {B : Bl} {i : Nat} {o : List OpX} (h : opInv B (i, o)) (hi : i < B.length) (hb : ¬ (i + 4 ≤ B.length ∧ i + 4 + opSz B i ≤ B.length)) : optL B = none := by
 obtain ⟨⟨f, h1, h2⟩, _, h4⟩ := h
 have h1 : B.length < f + i := h1
 cases f with
 | zero => omega
 | succ f => rw [h2]; unfold optF; rw [if_neg (by show ¬ B.length ≤ i; omega), if_neg hb]
theorem opInv.step {B : Bl} {i : Nat} {o : List OpX} (h : opInv B (i, o)) (_ : i < B.length) (h3 : i + 4 ≤ B.length) (h5 : i + 4 + opSz B i ≤ B.length) : opInv B (i + 4 + opSz B i, o ++ [opAt B i]) := by
 obtain ⟨⟨f, h1, h2⟩, h4, _⟩ := h
 have h1 : B.length < f + i := h1
 have h4 : o.length ≤ i := h4
 cases f with
 | zero => omega
 | succ f =>
  refine ⟨⟨f, by show _ < f + (i + 4 + opSz B i); omega, ?_⟩, by show (o ++ [_]).length ≤ i + 4 + _; simp; omega, h5⟩
  rw [h2]
  show optF B (f + 1) i o = _
  unfold optF
  rw [if_neg (by show ¬ B.length ≤ i; omega), if_pos ⟨h3, h5⟩]
  cases f <;> rfl
theorem byte_src {G : Gh} {b c : Nat} {l : Bl} (hG : (G b).bind AObj.look = some (l.map byV)) (h0 : l.length ≠ 0) : zAk G 1 (.slice (some ⟨b, 0, none⟩) l.length c) = some (l.length, l.map fun b => .int .u8 (b.toNat : Int)) := by
 unfold zAk
 have hb : l.length.beq 0 = false := by cases hb : l.length.beq 0; rfl; exact absurd (Nat.eq_of_beq_eq_true hb) h0
 simp only [hb, cond_false, hG]
 rw [show (0 + l.length * 1).ble (l.map byV).length = true from Nat.ble_eq_true_of_le (by simp)]
 rw [Nat.mul_one, List.drop_zero, List.take_of_length_le (by simp)]
 rfl
def OptR (H : Tr AObj) (v : Value) (o : Option (List OpX)) : Prop := (o = none ∧ v = .tuple #[.slice none 0 0, .bool false]) ∨ (o = some [] ∧ v = .tuple #[.slice none 0 0, .bool true]) ∨ ∃ b l, o = some l ∧ l ≠ [] ∧ v = .tuple #[.slice (some ⟨b, 0, none⟩) l.length U, .bool true] ∧ b < JJ ∧ H.get b = some (.cells (l.flatMap layO.g) 60)
theorem OptR.frz {dp : Prop} {H : Tr AObj} {v : Value} {o : Option (List OpX)} (h : OptR H v o) : FrzP dp Try.prog 0 H v (optV o) := by
 rcases h with ⟨rfl, rfl⟩ | ⟨rfl, rfl⟩ | ⟨b, l, rfl, _, rfl, hb, h⟩
 ·exact .tuple _ _ (.cons _ _ _ _ (.one _ _ (.nil 2)) (.cons _ _ _ _ (.one _ _ (.plain _ rfl)) .nil))
 ·exact .tuple _ _ (.cons _ _ _ _ (.one _ _ (.nil 2)) (.cons _ _ _ _ (.one _ _ (.plain _ rfl)) .nil))
 ·exact .tuple _ _ (.cons _ _ _ _ (.one _ _ (zHq layO l hb h (by kernel_rfl) rfl rfl)) (.cons _ _ _ _ (.one _ _ (.plain _ rfl)) .nil))
end Go.Proofs.Ytknpgjeclmadkaa
namespace Go.Proofs.Ytknpgjeclmadkaa
open Go Go.RowKit
structure EdX where
 size : Int
 ext : Int
 ver : Int
 dob : Bool
 o : List OpX
def EdX.cs (e : EdX) : List Value := [.int .i64 e.size, .int .i64 e.ext, .int .i64 e.ver, .bool e.dob, trO e.o]
def EdX.v (e : EdX) : Value := .agg #[.int .i64 e.size, .int .i64 e.ext, .int .i64 e.ver, .bool e.dob, trO e.o]
def ed0 : EdX := ⟨0, 0, 0, false, []⟩
def edOk (x : RcX) : Bool := (optL x.d.data.toList).isSome && (x.n.data.toList == [0]) && decide (x.c ≥ 0) && decide (x.c ≤ 65535) && decide (x.ttl ≥ 0) && decide (x.ttl ≤ 2147483647)
def edOf (x : RcX) : EdX := ⟨x.c, shrI .i64 x.ttl 24, bitsI .and .i64 (shrI .i64 x.ttl 16) 255, bitsI .and .i64 x.ttl 32768 != 0, (optL x.d.data.toList).getD []⟩
def isO (x : RcX) : Bool := decide (x.t = 41)
def ofM (m : MsT) : EdX × Bool × Int :=
 if cntO m.ar + (cntO m.an + cntO m.ns) = 0 then (ed0, false, 0) else if cntO m.ar ≠ 1 ∨ 0 < cntO m.an + cntO m.ns then (ed0, false, 4)
 else match m.ar.find? isO with
  | none => (ed0, false, 4)
  | some x => if edOk x then (edOf x, true, 0) else (ed0, false, 4)
noncomputable def zRa : Ct Try.prog 0 := Ct.inl (tbOf mixed []) mixed [] 40 Try.f40 Try.func40 (bodyOf Try.f40) (by kernel_rfl)
end Go.Proofs.Ytknpgjeclmadkaa
namespace Go.Proofs.Ytknpgjeclmadkaa
open Go Go.RowKit
def MsT.strip (m : MsT) : MsT := ⟨m.id, m.fl, m.q, m.an.filter nop, m.ns.filter nop, m.ar.filter nop⟩
theorem ms1_inj {a b : MsT} (h : [a.v] = [b.v]) : a = b := by simp only [List.cons.injEq, and_true] at h; exact MsT.v_inj h
def MsT.same (a b : MsT) : Bool := (a.id == b.id) && ((a.fl == b.fl) && (decide (a.q = b.q) && (decide (a.an = b.an) && (decide (a.ns = b.ns) && decide (a.ar = b.ar)))))
noncomputable def tbEt6 : Tb Try.prog 0 := tbOf mixed [ct_sameQT, zQu]
theorem sameM_tr (a b : MsT) (hf : a.fit 1000000) : ∃ r, FnS Try.prog 0 14 [a.v, b.v] .e 0 r ∧ ∃ H k wr, r = .ret (.bool (a.same b)) H k wr := by
 obtain ⟨f1, f2, f3, f4⟩ := hf
 refine zCe mixed tbEt6 [] Try.func14 (c := bodyOf Try.f14) (by kernel_rfl) ?_
 unfold MsT.same
 refine ifK (fun g1 => ?_) (fun g1 => ?_)
 rotate_left
 ·rw [show (a.id == b.id) = false from g1]; exact ⟨_, _, _, rfl⟩
 rw [show (a.id == b.id) = true from g1]
 refine ifK (fun g2 => ?_) (fun g2 => ?_)
 rotate_left
 ·rw [show (a.fl == b.fl) = false from g2]; exact ⟨_, _, _, rfl⟩
 rw [show (a.fl == b.fl) = true from g2]
 refine Exists.intro (a.q, b.q) (And.intro ⟨rfl, by show a.q.length ≤ _; omega⟩ ?_)
 refine ifK (fun g3 => ?_) (fun g3 => ?_)
 rotate_left
 ·rw [show decide (a.q = b.q) = false from g3]; exact ⟨_, _, _, rfl⟩
 rw [show decide (a.q = b.q) = true from g3]
 refine Exists.intro (a.an, b.an) (And.intro ⟨rfl, by show a.an.length ≤ _; omega⟩ ?_)
 refine ifK (fun g4 => ?_) (fun g4 => ?_)
 rotate_left
 ·rw [show decide (a.an = b.an) = false from g4]; exact ⟨_, _, _, rfl⟩
 rw [show decide (a.an = b.an) = true from g4]
 refine Exists.intro (a.ns, b.ns) (And.intro ⟨rfl, by show a.ns.length ≤ _; omega⟩ ?_)
 refine ifK (fun g5 => ?_) (fun g5 => ?_)
 rotate_left
 ·rw [show decide (a.ns = b.ns) = false from g5]; exact ⟨_, _, _, rfl⟩
 rw [show decide (a.ns = b.ns) = true from g5]
 refine Exists.intro (a.ar, b.ar) (And.intro ⟨rfl, by show a.ar.length ≤ _; omega⟩ ?_)
 exact ⟨_, _, _, rfl⟩
theorem MsT.same_refl (a : MsT) : a.same a = true := by unfold MsT.same; simp
end Go.Proofs.Ytknpgjeclmadkaa
namespace Go.Proofs.Ytknpgjeclmadkaa
open Go Go.RowKit
def MsT.code (m : MsT) : Int := bitsI .or .i64 (shlI .i64 (ofM m).1.ext 4) (codeI m.fl)
def MsT.room (m : MsT) : Int := maxI 512 (ofM m).1.size
end Go.Proofs.Ytknpgjeclmadkaa
namespace Go.Proofs.Ytknpgjeclmadkaa
open Go Go.RowKit
end Go.Proofs.Ytknpgjeclmadkaa
namespace Go.Proofs.Ytknpgjeclmadkaa
open Go Go.RowKit
def MsL.fit (m : MsL) : Prop := m.q.l.length ≤ 9223372036854775807 ∧ m.an.l.length ≤ 9223372036854775807 ∧ m.ns.l.length ≤ 9223372036854775807 ∧ m.ar.l.length ≤ 9223372036854775807
end Go.Proofs.Ytknpgjeclmadkaa
namespace Go.Proofs.Ytknpgjeclmadkaa
open Go Go.RowKit
end Go.Proofs.Ytknpgjeclmadkaa
namespace Go.Proofs.Ytknpgjeclmadkaa
open Go Go.RowKit
end Go.Proofs.Ytknpgjeclmadkaa
namespace Go.Proofs.Ytknpgjeclmadkaa
open Go Go.RowKit
end Go.Proofs.Ytknpgjeclmadkaa
namespace Go.Proofs.Ytknpgjeclmadkaa
open Go Go.RowKit
def rc0 : RcX := ⟨⟨#[]⟩, 0, 0, 0, ⟨#[]⟩⟩
def rc7 : RcX := ⟨⟨#[]⟩, 7, 0, 0, ⟨#[]⟩⟩
def rc9 : RcX := ⟨⟨#[]⟩, 9, 0, 0, ⟨#[]⟩⟩
def qu0 : QuX := ⟨⟨#[]⟩, 0, 0⟩
def qu7 : QuX := ⟨⟨#[]⟩, 7, 0⟩
def qu9 : QuX := ⟨⟨#[]⟩, 9, 0⟩
theorem zEc : TyIs Try.prog 48 5 56 rc0.v := tyIs_of (by kernel_rfl)
theorem zKd : TyIs Try.prog 57 3 32 qu0.v := tyIs_of (by kernel_rfl)
def roomC {α : Type} (L : Lay α) (x0 x7 : α) (l : List α) : List Value := (l ++ [x7, x0]).flatMap L.g
section
variable {P : Program} {ev : Operand → Value} {G : Gh} {n : Nat} {o : Oper}
theorem mk_room {α : Type} (L : Lay α) (x0 : α) {t e : TypeId} {x y : Operand} {k k' : IntKind} {c : Int} {bytes m : Nat} {z : Value} (ht : TyIs P e L.k bytes z) (hz : L.g x0 = z.cells.toList) (ho : o.op = .makeSlice t x y) (hx : ev x = .int k 0) (hy : ev y = .int k' c) (hu : P.underlying t = some (.slice e))
  (hc : c = (m : Int)) (h1 : (bytes : Int) * m ≤ 281474976710656) (h2 : m ≤ 9223372036854775807) :
  aop P o ev G n = .val (.slice (some ⟨n, 0, none⟩) 0 m) [(n, some (.cells ((List.replicate m x0).flatMap L.g) e))] 1 := by
 subst hc
 refine aop_make ho hx hy hu ht ⟨Int.le_refl _, by omega, h1, by omega⟩ ?_ (zAc L.g L.plain _) rfl
 exact made_lay L x0 hz m
theorem oneL_flat {α : Type} {g : α → List Value} (h : ∀ x, oneL (g x) = true) (l : List α) : oneL (l.flatMap g) = true := by
 induction l with
 | nil => rfl
 | cons x l ih =>
  have h1 := h x
  unfold oneL at h1 ih ⊢
  rw [List.flatMap_cons, List.all_append, h1, ih]; rfl
theorem zGg {α : Type} (L : Lay α) (hone : ∀ x, oneL (L.g x) = true) {a x : Operand} {sT xT e : TypeId} {b k k' c : Nat} {C C' ys : List α} {bytes : Nat} {z : Value} {xv : Value} (ht : TyIs P e L.k bytes z) (hzs : z.cells.size = L.k) (ho : o.op = .call { callee := .builtin .append, args := #[a, x], argTypes := #[sT, xT] }) (ha : ev a = .slice (some ⟨b, 0, none⟩) k c) (hx : ev x = xv)
  (hu : P.underlying sT = some (.slice e)) (hn : notInt P xT = true) (hsrc : zAk G L.k xv = some (ys.length, ys.flatMap L.g)) (hm : ys.length ≠ 0) (hcU : c ≠ U) (hroom : k + ys.length ≤ c) (hg : G b = some (.cells (C.flatMap L.g) e)) (hl : k + ys.length ≤ C.length) (hk : k + ys.length = k') (hC : C.take k ++ ys ++ C.drop k' = C') :
  aop P o ev G n = .val (.slice (some ⟨b, 0, none⟩) k' c) [(b, some (.cells (C'.flatMap L.g) e))] 0 := by
 subst hk; subst hC
 have hp := L.pos
 refine aop_room ho ha hx hu hn ht (by omega) hzs hsrc hm hcU hroom hg ?_ (oneL_flat hone _) ?_
 ·rw [zAb L.g L.k L.len, zAb L.g L.k L.len, Nat.zero_add, ← Nat.add_mul]
  exact Nat.mul_le_mul_right _ hl
 ·rw [Nat.zero_add, zAb L.g L.k L.len]
  exact flat_over L C ys k hl
end
theorem zOj (x : RcX) : oneL (layR.g x) = true := rfl
theorem one_qu (x : QuX) : oneL (layQ.g x) = true := rfl
end Go.Proofs.Ytknpgjeclmadkaa
namespace Go.Proofs.Ytknpgjeclmadkaa
open Go Go.RowKit
theorem zIb {α : Type} (L : Lay α) (x0 x7 : α) (l : List α) : roomC L x0 x7 l = [] ++ l.flatMap L.g ++ [x7, x0].flatMap L.g := by unfold roomC; rw [List.flatMap_append, List.nil_append]
theorem wrap1 {n : Nat} (h : n ≤ 1048576) : IntKind.i64.wrap ((n : Int) + 1) = ((n + 1 : Nat) : Int) := by rw [wrapM (by omega) (by omega)]; omega
theorem wrap2 {n : Nat} (h : n ≤ 1048576) : IntKind.i64.wrap ((((n + 1 : Nat) : Int).toNat - Int.toNat 0 : Nat) - 1 : Int) = (n : Int) := by
 have e : (((n + 1 : Nat) : Int).toNat - Int.toNat 0) = n + 1 := by rw [Int.toNat_natCast]; rfl
 rw [e, wrapM (by omega) (by omega)]; omega
theorem spare0 {n : Nat} (h : n ≤ 1048576) : ¬ Nat.beq (n + 2) U = true := fun g => by have g := Nat.eq_of_beq_eq_true g; unfold U at g; omega
theorem spare1 {n : Nat} (h : n ≤ 1048576) : (inLH 0 (IntKind.i64.wrap ((n : Int) + 1)) (n + 2) && n.ble (n + 2) && (n + 2 - Int.toNat 0).blt 1180591620717411303424) = true := by
 rw [wrap1 h]
 simp only [inLH, Bool.and_eq_true, decide_eq_true_eq]
 exact ⟨⟨⟨⟨by omega, by omega⟩, by omega⟩, Nat.ble_eq_true_of_le (by omega)⟩, Nat.ble_eq_true_of_le (by show n + 2 - 0 + 1 ≤ _; omega)⟩
theorem spare2 {n : Nat} (h : n ≤ 1048576) : inI (IntKind.i64.wrap (((IntKind.i64.wrap ((n : Int) + 1)).toNat - Int.toNat 0 : Nat) - 1 : Int)) ((IntKind.i64.wrap ((n : Int) + 1)).toNat - Int.toNat 0) = true := by
 rw [wrap1 h, wrap2 h, Int.toNat_natCast]
 simp [inI]
 omega
theorem spare3 {α : Type} (L : Lay α) (x0 x7 : α) (l : List α) (off sz : Nat) (hs : sz = L.k) (ho : off < L.k) (h : l.length ≤ 1048576) :
  (roomC L x0 x7 l)[(bif (l.length + 2).beq (Int.toNat 0) then 0 else 0 + Int.toNat 0 * sz) + (IntKind.i64.wrap (((IntKind.i64.wrap ((l.length : Int) + 1)).toNat - Int.toNat 0 : Nat) - 1 : Int)).toNat * sz + off]? = (L.g x7)[off]? := by
 subst hs
 have e0 : (l.length + 2).beq (Int.toNat 0) = false := rfl
 rw [e0, cond_false, wrap1 h, wrap2 h, Int.toNat_natCast, show Int.toNat 0 = 0 from rfl, Nat.zero_mul, Nat.zero_add]
 unfold roomC
 rw [List.flatMap_append, List.getElem?_append_right (by rw [zAb L.g L.k L.len]; omega), zAb L.g L.k L.len, show l.length * L.k + off - l.length * L.k = off by omega, List.flatMap_cons, List.getElem?_append_left (by rw [L.len]; exact ho)]
end Go.Proofs.Ytknpgjeclmadkaa
namespace Go.Proofs.Ytknpgjeclmadkaa
open Go Go.RowKit
noncomputable def tbCm : Tb Try.prog 0 := tbOf mixed []
theorem zMa (l : List RcX) (hl : l.length ≤ 1048576) : ∃ r, FnS Try.prog 0 33 [trR l] .e 0 r ∧
  ∃ H m wr, r = .ret (.slice (some ⟨0, 0, none⟩) l.length (l.length + 2)) H m wr ∧ H.get 0 = some (.cells (roomC layR rc0 rc7 l) 48) := by
 have e2 : IntKind.i64.wrap ((l.length : Int) + 2) = ((l.length + 2 : Nat) : Int) := by rw [wrapM (by omega) (by omega)]; omega
 refine zCe mixed tbCm [900001, 900002] Try.func33 (c := bodyOf Try.f33) (by kernel_rfl) ?_
 refine Exists.intro (.slice (some ⟨0, 0, none⟩) 0 (l.length + 2)) (Exists.intro [(0, some (.cells ((List.replicate (l.length + 2) rc0).flatMap layR.g) 48))] (Exists.intro 1 (And.intro ?_ ?_)))
 ·exact mk_room layR rc0 zEc rfl rfl rfl rfl (by kernel_rfl) e2 (by omega) (by omega)
 by_cases hz : l.length = 0
 ·have hz : l = [] := List.length_eq_zero_iff.1 hz
  subst hz
  refine Exists.intro (.slice (some ⟨0, 0, none⟩) 0 2) (Exists.intro [] (Exists.intro 0 (And.intro ?_ ?_)))
  ·exact zLx (news := []) rfl rfl rfl rfl (by kernel_rfl) zEc (by decide) rfl rfl (.inr (by decide))
  refine Exists.intro (.slice (some ⟨0, 0, none⟩) 1 2) (Exists.intro [(0, some (.cells (roomC layR rc0 rc7 []) 48))] (Exists.intro 0 (And.intro ?_ ?_)))
  ·exact zGg layR zOj (k := 0) (ys := [rc7]) (C := [rc0, rc0]) zEc rfl rfl rfl rfl rfl (by kernel_rfl) rfl (by decide) (by decide) (by decide) (by kernel_rfl) (by decide) rfl rfl
  refine And.intro (by kernel_rfl) ?_
  exact ⟨_, _, _, rfl, rfl⟩
 ·refine Exists.intro (.slice (some ⟨0, 0, none⟩) l.length (l.length + 2)) (Exists.intro [(0, some (.cells ((l ++ [rc0, rc0]).flatMap layR.g) 48))] (Exists.intro 0 (And.intro ?_ ?_)))
  ·exact zGg layR zOj (k := 0) (ys := l) (C := List.replicate (l.length + 2) rc0) zEc rfl rfl rfl rfl rfl (by kernel_rfl) (by kernel_rfl) hz (by unfold U; omega) (by omega) (by kernel_rfl) (by rw [List.length_replicate]; omega) (Nat.zero_add _) (by rw [List.take_zero, List.nil_append, List.drop_replicate, show l.length + 2 - l.length = 2 by omega]; rfl)
  refine Exists.intro (.slice (some ⟨0, 0, none⟩) (l.length + 1) (l.length + 2)) (Exists.intro [(0, some (.cells (roomC layR rc0 rc7 l) 48))] (Exists.intro 0 (And.intro ?_ ?_)))
  ·exact zGg layR zOj (k := l.length) (ys := [rc7]) (C := l ++ [rc0, rc0]) zEc rfl rfl rfl rfl rfl (by kernel_rfl) (by kernel_rfl) (by decide) (by unfold U; omega) (by show l.length + 1 ≤ _; omega) (by kernel_rfl) (by simp) rfl (by simp [List.take_left', List.drop_append])
  refine ifK (fun g => absurd (Nat.eq_of_beq_eq_true g) (by unfold U; omega)) (fun _ => ?_)
  refine And.intro ?_ ?_
  ·simp only [inLH, Bool.and_eq_true, decide_eq_true_eq]; exact ⟨⟨⟨⟨by omega, by omega⟩, by omega⟩, Nat.ble_eq_true_of_le (by omega)⟩, Nat.ble_eq_true_of_le (by omega)⟩
  exact ⟨_, _, _, rfl, rfl⟩
noncomputable def zMb : Ct Try.prog 0 :=
 CtR.ct { f := 33, X := List RcX, pre := fun l a _ _ => a = [trR l] ∧ l.length ≤ 1048576, out := fun l H n => .ret (.slice (some ⟨n, 0, none⟩) l.length (l.length + 2)) (H.set n (some (.cells (roomC layR rc0 rc7 l) 48))) (n + 1) [],
          ok := fun l as0 H n ⟨h1, h2⟩ => by
           subst h1
           obtain ⟨r, hF, H', m, wr, rfl, h⟩ := zMa l h2
           exact zAu (fun n => .slice (some ⟨n, 0, none⟩) l.length (l.length + 2)) [0] [(roomC layR rc0 rc7 l, 48)] hF (.cons _ _ _ _ (.one _ _ (.deep _ _ _ _ _ _ trivial)) .nil) (by decide) (fun x hx => by simp at hx; subst hx; decide) rfl
            (fun i b xs e hb hc => by
             match i, hb, hc with
             | 0, hb, hc => cases hb; cases hc; exact ⟨[], by rw [List.append_nil]; exact h, zAc layR.g layR.plain _, .inl rfl⟩
             | i + 1, hb, hc => simp at hb) (fun n => .sl _ _ _ _ _ (zAh (i := 0) (by decide) rfl)),
          uniq := fun x x' a H m ⟨h1, _⟩ ⟨k1, _⟩ => by
           rw [h1] at k1
           simp only [List.cons.injEq, and_true] at k1
           rw [zAr layR k1] }
theorem ms1_injC {a b : MsT} (h : [a.v] = [b.v]) : a = b := by simp only [List.cons.injEq, and_true] at h; exact MsT.v_inj h
noncomputable def tbCm2 : Tb Try.prog 0 := tbOf mixed [zMb]
theorem copyMT_fn (m : MsT) (hf : m.fit 1048576) : ∃ r, FnS Try.prog 0 10 [m.v] .e 0 r ∧ ∃ H k wr, r = .ret (.agg #[.int .i64 m.id, .int .i64 m.fl, .slice (some ⟨2, 0, none⟩) m.q.length (m.q.length + 2), .slice (some ⟨4, 0, none⟩) m.an.length (m.an.length + 2), .slice (some ⟨5, 0, none⟩) m.ns.length (m.ns.length + 2), .slice (some ⟨6, 0, none⟩) m.ar.length (m.ar.length + 2)]) H k wr ∧
  H.get 2 = some (.cells (roomC layQ qu0 qu7 m.q) 57) ∧ H.get 4 = some (.cells (roomC layR rc0 rc7 m.an) 48) ∧ H.get 5 = some (.cells (roomC layR rc0 rc7 m.ns) 48) ∧ H.get 6 = some (.cells (roomC layR rc0 rc7 m.ar) 48) := by
 obtain ⟨id, fl, ql, al, nl, rl⟩ := m
 obtain ⟨hq, hal, hnl, hrl⟩ := hf
 have hq : ql.length ≤ 1048576 := hq
 have e2 : IntKind.i64.wrap ((ql.length : Int) + 2) = ((ql.length + 2 : Nat) : Int) := by rw [wrapM (by omega) (by omega)]; omega
 refine zCe mixed tbCm2 [900001, 900002] Try.func10 (c := bodyOf Try.f10) (by kernel_rfl) ?_
 refine And.intro (by kernel_rfl) ?_
 refine Exists.intro (Value.slice (some ⟨2, 0, none⟩) 0 (ql.length + 2)) (Exists.intro [((2 : Nat), some (AObj.cells ((List.replicate (ql.length + 2) qu0).flatMap layQ.g) 57))] (Exists.intro (1 : Nat) (And.intro ?_ ?_)))
 ·exact mk_room layQ qu0 zKd rfl rfl rfl rfl (by kernel_rfl) e2 (by omega) (by omega)
 by_cases hz : ql.length = 0
 ·have hz : ql = [] := List.length_eq_zero_iff.1 hz
  subst hz
  refine Exists.intro (Value.slice (some ⟨2, 0, none⟩) 0 2) (Exists.intro ([] : List (Nat × Option AObj)) (Exists.intro (0 : Nat) (And.intro ?_ ?_)))
  ·exact zLx (news := []) rfl rfl rfl rfl (by kernel_rfl) zKd (by decide) rfl rfl (.inr (by decide))
  refine Exists.intro (Value.slice (some ⟨2, 0, none⟩) 1 2) (Exists.intro [((2 : Nat), some (AObj.cells (roomC layQ qu0 qu7 []) 57))] (Exists.intro (0 : Nat) (And.intro ?_ ?_)))
  ·exact zGg layQ one_qu (k := 0) (ys := [qu7]) (C := [qu0, qu0]) zKd rfl rfl rfl rfl rfl (by kernel_rfl) rfl (by decide) (by decide) (by decide) (by kernel_rfl) (by decide) rfl rfl
  refine And.intro (by kernel_rfl) ?_
  refine Exists.intro al (And.intro ⟨rfl, hal⟩ ?_)
  refine Exists.intro nl (And.intro ⟨rfl, hnl⟩ ?_)
  refine Exists.intro rl (And.intro ⟨rfl, hrl⟩ ?_)
  exact ⟨_, _, _, rfl, rfl, rfl, rfl, rfl⟩
 ·refine Exists.intro (Value.slice (some ⟨2, 0, none⟩) ql.length (ql.length + 2)) (Exists.intro [((2 : Nat), some (AObj.cells ((ql ++ [qu0, qu0]).flatMap layQ.g) 57))] (Exists.intro (0 : Nat) (And.intro ?_ ?_)))
  ·exact zGg layQ one_qu (k := 0) (ys := ql) (C := List.replicate (ql.length + 2) qu0) zKd rfl rfl rfl rfl rfl (by kernel_rfl) (by kernel_rfl) hz (by unfold U; omega) (by omega) (by kernel_rfl) (by rw [List.length_replicate]; omega) (Nat.zero_add _) (by rw [List.take_zero, List.nil_append, List.drop_replicate, show ql.length + 2 - ql.length = 2 by omega]; rfl)
  refine Exists.intro (Value.slice (some ⟨2, 0, none⟩) (ql.length + 1) (ql.length + 2)) (Exists.intro [((2 : Nat), some (AObj.cells (roomC layQ qu0 qu7 ql) 57))] (Exists.intro (0 : Nat) (And.intro ?_ ?_)))
  ·exact zGg layQ one_qu (k := ql.length) (ys := [qu7]) (C := ql ++ [qu0, qu0]) zKd rfl rfl rfl rfl rfl (by kernel_rfl) (by kernel_rfl) (by decide) (by unfold U; omega) (by show ql.length + 1 ≤ _; omega) (by kernel_rfl) (by simp) rfl (by simp [List.take_left', List.drop_append])
  refine ifK (fun g => absurd (Nat.eq_of_beq_eq_true g) (by unfold U; omega)) (fun _ => ?_)
  refine And.intro ?_ ?_
  ·simp only [inLH, Bool.and_eq_true, decide_eq_true_eq]; exact ⟨⟨⟨⟨by omega, by omega⟩, by omega⟩, Nat.ble_eq_true_of_le (by omega)⟩, Nat.ble_eq_true_of_le (by omega)⟩
  refine Exists.intro al (And.intro ⟨rfl, hal⟩ ?_)
  refine Exists.intro nl (And.intro ⟨rfl, hnl⟩ ?_)
  refine Exists.intro rl (And.intro ⟨rfl, hrl⟩ ?_)
  exact ⟨_, _, _, rfl, rfl, rfl, rfl, rfl⟩
def cpV (m : MsT) (b1 b2 b3 b4 : Nat) : Value := .agg #[.int .i64 m.id, .int .i64 m.fl, .slice (some ⟨b1, 0, none⟩) m.q.length (m.q.length + 2), .slice (some ⟨b2, 0, none⟩) m.an.length (m.an.length + 2), .slice (some ⟨b3, 0, none⟩) m.ns.length (m.ns.length + 2), .slice (some ⟨b4, 0, none⟩) m.ar.length (m.ar.length + 2)]
def cpC (m : MsT) : List (List Value × TypeId) := [(roomC layQ qu0 qu7 m.q, 57), (roomC layR rc0 rc7 m.an, 48), (roomC layR rc0 rc7 m.ns, 48), (roomC layR rc0 rc7 m.ar, 48)]
noncomputable def ct_copyMT : Ct Try.prog 0 :=
 CtR.ct { f := 10, X := MsT, pre := fun m a _ _ => a = [m.v] ∧ m.fit 1048576, out := fun m H n => .ret (cpV m n (n + 1) (n + 2) (n + 3)) (layN H n (cpC m)) (n + 4) [],
          ok := fun m as0 H n ⟨h1, h2⟩ => by
           subst h1
           obtain ⟨r, hF, H', k, wr, rfl, g1, g2, g3, g4⟩ := copyMT_fn m h2
           exact zAu (fun n => cpV m n (n + 1) (n + 2) (n + 3)) [2, 4, 5, 6] (cpC m) hF (.cons _ _ _ _ (LtM.frz (m.lt_at H)) .nil) (by decide) (fun x hx => by simp only [List.mem_cons, List.not_mem_nil, or_false] at hx; rcases hx with rfl | rfl | rfl | rfl <;> decide) rfl
            (fun i b xs e hb hc => by
             match i, hb, hc with
             | 0, hb, hc => cases hb; cases hc; exact ⟨[], by rw [List.append_nil]; exact g1, zAc layQ.g layQ.plain _, .inl rfl⟩
             | 1, hb, hc => cases hb; cases hc; exact ⟨[], by rw [List.append_nil]; exact g2, zAc layR.g layR.plain _, .inl rfl⟩
             | 2, hb, hc => cases hb; cases hc; exact ⟨[], by rw [List.append_nil]; exact g3, zAc layR.g layR.plain _, .inl rfl⟩
             | 3, hb, hc => cases hb; cases hc; exact ⟨[], by rw [List.append_nil]; exact g4, zAc layR.g layR.plain _, .inl rfl⟩
             | i + 4, hb, hc => simp at hb)
            (fun n => .agg _ _ (.cons _ _ _ _ (.plain _ rfl) (.cons _ _ _ _ (.plain _ rfl) (.cons _ _ _ _ (.sl _ _ _ _ _ (zAh (i := 0) (by decide) rfl)) (.cons _ _ _ _ (.sl _ _ _ _ _ (zAh (i := 1) (by decide) rfl)) (.cons _ _ _ _ (.sl _ _ _ _ _ (zAh (i := 2) (by decide) rfl)) (.cons _ _ _ _ (.sl _ _ _ _ _ (zAh (i := 3) (by decide) rfl)) .nil))))))),
          uniq := fun x x' a H m ⟨h1, _⟩ ⟨k1, _⟩ => by rw [h1] at k1; rw [ms1_injC k1] }
end Go.Proofs.Ytknpgjeclmadkaa
namespace Go.Proofs.Ytknpgjeclmadkaa
open Go Go.RowKit
noncomputable def zMe : Ct Try.prog 0 := CtR.lend 14 (LtM × LtM) (fun x => [x.1.v, x.2.v]) (fun x H => x.1.at H ∧ x.2.at H) (fun x => [x.1.m.v, x.2.m.v]) (fun x => x.1.m.fit 1000000) (fun x => .bool (x.1.m.same x.2.m))
 (fun x y H e h k => by simp only [List.cons.injEq, and_true] at e; exact Prod.ext (LtM.uniq e.1 h.1 k.1) (LtM.uniq e.2 h.2 k.2)) (fun x H h => .cons _ _ _ _ (LtM.frz h.1) (.cons _ _ _ _ (LtM.frz h.2) .nil))
 (fun x hf => by obtain ⟨r, hF, H, k, wr, rfl⟩ := sameM_tr x.1.m x.2.m hf; exact ⟨_, _, _, _, hF, .one _ _ (.plain _ rfl)⟩)
def cpL (m : MsT) (b1 b2 b3 b4 : Nat) : LtM := ⟨m, .slice (some ⟨b1, 0, none⟩) m.q.length (m.q.length + 2), .slice (some ⟨b2, 0, none⟩) m.an.length (m.an.length + 2), .slice (some ⟨b3, 0, none⟩) m.ns.length (m.ns.length + 2), .slice (some ⟨b4, 0, none⟩) m.ar.length (m.ar.length + 2)⟩
def cpAt (m : MsT) (b1 b2 b3 b4 : Nat) (H : Tr AObj) : Prop := H.get b1 = some (.cells (roomC layQ qu0 qu7 m.q) 57) ∧ H.get b2 = some (.cells (roomC layR rc0 rc7 m.an) 48) ∧ H.get b3 = some (.cells (roomC layR rc0 rc7 m.ns) 48) ∧ H.get b4 = some (.cells (roomC layR rc0 rc7 m.ar) 48)
theorem cpL_at {m : MsT} {b1 b2 b3 b4 : Nat} {H : Tr AObj} (hf : m.fit 1048576) (hJ : b1 < JJ ∧ b2 < JJ ∧ b3 < JJ ∧ b4 < JJ) (h : cpAt m b1 b2 b3 b4 H) : (cpL m b1 b2 b3 b4).at H := by
 obtain ⟨h1, h2, h3, h4⟩ := h
 obtain ⟨f1, f2, f3, f4⟩ := hf
 have hx : maxLen = 9223372036854775807 := by decide
 exact ⟨.own layQ _ hJ.1 (.inr ⟨Nat.le_add_right _ _, by rw [hx]; omega⟩) h1 (zIb ..), .own layR _ hJ.2.1 (.inr ⟨Nat.le_add_right _ _, by rw [hx]; omega⟩) h2 (zIb ..), .own layR _ hJ.2.2.1 (.inr ⟨Nat.le_add_right _ _, by rw [hx]; omega⟩) h3 (zIb ..), .own layR _ hJ.2.2.2 (.inr ⟨Nat.le_add_right _ _, by rw [hx]; omega⟩) h4 (zIb ..)⟩
noncomputable def zQz : Ct Try.prog 0 := Ct.inl (tbOf mixed []) mixed [0, 1, 2, 3] 42 Try.f42 Try.func42 (bodyOf Try.f42) (by kernel_rfl)
noncomputable def tbKp : Tb Try.prog 0 := tbOf mixed [zMe, zQz]
def kpH (m : MsT) : Tr AObj := heap 3 [(0, .cells (roomC layQ qu0 qu7 m.q) 57), (1, .cells (roomC layR rc0 rc7 m.an) 48), (2, .cells (roomC layR rc0 rc7 m.ns) 48), (3, .cells (roomC layR rc0 rc7 m.ar) 48)]
theorem keptM_fn (m : MsT) (hf : m.fit 1000000) : ∃ r, FnS Try.prog 0 18 [cpV m 0 1 2 3, m.v] (kpH m) 4 r ∧ ∃ H k wr, r = .ret (.bool true) H k wr ∧ ∀ i ∈ wr, 4 ≤ i := by
 have hsz : (Try.prog.types[57]).size = 3 := by kernel_rfl
 have hsz2 : (Try.prog.types[48]).size = 5 := by kernel_rfl
 obtain ⟨f1, f2, f3, f4⟩ := hf
 have hq : m.q.length ≤ 1048576 := by omega
 have ha : m.an.length ≤ 1048576 := by omega
 have hn : m.ns.length ≤ 1048576 := by omega
 have hr : m.ar.length ≤ 1048576 := by omega
 unfold kpH
 refine zCe mixed tbKp [0, 1, 2, 3] Try.func18 (c := bodyOf Try.f18) (by kernel_rfl) ?_
 refine Exists.intro (cpL m 0 1 2 3, m.lt) (And.intro ⟨rfl, ⟨cpL_at ⟨hq, ha, hn, hr⟩ (by decide) ⟨by kernel_rfl, by kernel_rfl, by kernel_rfl, by kernel_rfl⟩, m.lt_at _⟩, ⟨f1, f2, f3, f4⟩⟩ ?_)
 refine ifK (fun h => absurd (show (!m.same m) = true from h) (by rw [MsT.same_refl]; simp)) (fun _ => ?_)
 refine ifK (fun g => absurd g (spare0 hq)) (fun _ => ?_)
 refine And.intro (spare1 hq) ?_
 refine ifK (fun _ => ?_) (fun g => absurd (spare2 hq) (by rw [show inI _ _ = false from g]; decide))
 refine Exists.intro (7 : Int) (And.intro (spare3 layQ qu0 qu7 m.q 1 _ hsz (by decide) hq) ?_)
 refine ifK (fun g => absurd g (spare0 ha)) (fun _ => ?_)
 refine And.intro (spare1 ha) ?_
 refine ifK (fun _ => ?_) (fun g => absurd (spare2 ha) (by rw [show inI _ _ = false from g]; decide))
 refine Exists.intro (7 : Int) (And.intro (spare3 layR rc0 rc7 m.an 1 _ hsz2 (by decide) ha) ?_)
 refine ifK (fun g => absurd g (spare0 hn)) (fun _ => ?_)
 refine And.intro (spare1 hn) ?_
 refine ifK (fun _ => ?_) (fun g => absurd (spare2 hn) (by rw [show inI _ _ = false from g]; decide))
 refine Exists.intro (7 : Int) (And.intro (spare3 layR rc0 rc7 m.ns 1 _ hsz2 (by decide) hn) ?_)
 refine ifK (fun g => absurd g (spare0 hr)) (fun _ => ?_)
 refine And.intro (spare1 hr) ?_
 refine ifK (fun _ => ?_) (fun g => absurd (spare2 hr) (by rw [show inI _ _ = false from g]; decide))
 refine Exists.intro (7 : Int) (And.intro (spare3 layR rc0 rc7 m.ar 1 _ hsz2 (by decide) hr) ?_)
 exact ⟨_, _, _, rfl, wr_ge rfl⟩
noncomputable def ct_keptML : Ct Try.prog 0 :=
 CtR.ct { f := 18, X := MsT × Nat × Nat × Nat × Nat, pre := fun x a H _ => a = [cpV x.1 x.2.1 x.2.2.1 x.2.2.2.1 x.2.2.2.2, x.1.v] ∧ cpAt x.1 x.2.1 x.2.2.1 x.2.2.2.1 x.2.2.2.2 H ∧ [x.2.1, x.2.2.1, x.2.2.2.1, x.2.2.2.2].Nodup ∧ x.1.fit 1000000, out := fun x H n => .ret (.bool true) H n [],
          ok := fun ⟨m, b1, b2, b3, b4⟩ as0 H n ⟨h1, ⟨g1, g2, g3, g4⟩, h3, h4⟩ => by
           subst h1
           obtain ⟨r, hF, H', k, wr, rfl, hw⟩ := keptM_fn m h4
           exact zKu [b1, b2, b3, b4] hF hw (zIj h3) (ArgOK.of (.cons _ _ _ _ (.agg _ _ (.cons _ _ _ _ (.int _ _) (.cons _ _ _ _ (.int _ _) (.cons _ _ _ _ (.sl _ _ _ _ _ rfl) (.cons _ _ _ _ (.sl _ _ _ _ _ rfl) (.cons _ _ _ _ (.sl _ _ _ _ _ rfl) (.cons _ _ _ _ (.sl _ _ _ _ _ rfl) .nil))))))) (.cons _ _ _ _ (zAd 8 rfl) .nil)))
            (zPl ⟨⟨b1, _, rfl, g1, .same (zAc layQ.g layQ.plain _)⟩, ⟨b2, _, rfl, g2, .same (zAc layR.g layR.plain _)⟩, ⟨b3, _, rfl, g3, .same (zAc layR.g layR.plain _)⟩, ⟨b4, _, rfl, g4, .same (zAc layR.g layR.plain _)⟩, trivial⟩) rfl,
          uniq := fun x x' a H m ⟨h1, _⟩ ⟨k1, _⟩ => rfl }
end Go.Proofs.Ytknpgjeclmadkaa
namespace Go.Proofs.Ytknpgjeclmadkaa
open Go Go.RowKit
theorem struct_o : structOk Try.prog 60 = true := by kernel_rfl
noncomputable def tbSe : Tb Try.prog 0 := tbOf mixed []
theorem EdX.v_inj {a b : EdX} (h : a.v = b.v) : a = b := by
 obtain ⟨s, e, v, d, o⟩ := a
 obtain ⟨s', e', v', d', o'⟩ := b
 simp only [EdX.v, Value.agg.injEq, Array.mk.injEq, List.cons.injEq, Value.int.injEq, Value.bool.injEq, true_and, and_true] at h
 obtain ⟨rfl, rfl, rfl, rfl, h⟩ := h
 have := zAr layO h
 subst this; rfl
theorem sameE_tr (a : EdX) (hl : a.o.length ≤ 1000000000) : ∃ r, FnS Try.prog 0 19 [a.v, a.v] .e 0 r ∧ ∃ H m wr, r = .ret (.bool true) H m wr := by
 refine zCe mixed tbSe [] Try.func19 (c := bodyOf Try.f19) (by kernel_rfl) ?_
 refine ifK (fun h => absurd (show (a.size != a.size) = true from h) (by simp)) (fun _ => ?_)
 refine ifK (fun h => absurd (show (a.ext != a.ext) = true from h) (by simp)) (fun _ => ?_)
 refine ifK (fun h => absurd (show (a.ver != a.ver) = true from h) (by simp)) (fun _ => ?_)
 refine ifK (fun h => absurd (show (a.dob != a.dob) = true from h) (by simp)) (fun _ => ?_)
 refine ifK (fun h => absurd (show ((a.o.length : Int) != (a.o.length : Int)) = true from h) (by simp)) (fun _ => ?_)
 refine zAi (fun (i : Nat) f => ⟨slots 6 [(2, .pointer (some ⟨0, 0, none⟩)), (3, .pointer (some ⟨1, 0, none⟩)), (5, .int .i64 (i : Nat))] f, heap 2 [(0, .cells a.cs 28), (1, .cells a.cs 28)], 2, [], []⟩) (fun i => a.o.length - i) (fun i => i ≤ a.o.length) 0 (Nat.zero_le _) (rcq [0, 1] ⟨⟨_, rfl, .ptr _ _ _ rfl⟩, ⟨_, rfl, .ptr _ _ _ rfl⟩, ⟨_, rfl, .int _ _⟩, trivial⟩ ⟨⟨by decide, _, rfl, RO.clos rfl⟩, ⟨by decide, _, rfl, RO.clos rfl⟩, trivial⟩ .nil) ?_
 intro i f hi
 refine zAq tbSe [] 0 _ none mixed _ _ _ ?_
 refine ifK (fun h1 => ?_) (fun h1 => ?_)
 ·have h1 : i < a.o.length := by have h1 : ((i : Nat) : Int) < (a.o.length : Int) := of_decide_eq_true h1; omega
  refine And.intro (by kernel_rfl) ?_
  refine ifK (fun _ => ?_) (fun h2 => absurd h2 (by simp [inI]; omega))
  refine Exists.intro a.o[i].c (Exists.intro a.o[i].d (And.intro (zAe layO h1) ?_))
  refine ifK (fun _ => ?_) (fun h2 => absurd h2 (by simp [inI]; omega))
  refine Exists.intro a.o[i].c (Exists.intro a.o[i].d (And.intro (zAe layO h1) ?_))
  refine And.intro struct_o ?_
  refine ifK (fun h3 => ?_) (fun _ => ?_)
  ·exfalso; simp at h3
  ·exact ⟨i + 1, h1, by omega, rcq [0, 1] ⟨⟨_, rfl, .ptr _ _ _ rfl⟩, ⟨_, rfl, .ptr _ _ _ rfl⟩, zAa rfl (by rw [wrapN (by omega) (by omega)]; omega), trivial⟩ ⟨⟨by decide, _, rfl, RO.clos rfl⟩, ⟨by decide, _, rfl, RO.clos rfl⟩, trivial⟩ .nil⟩
 ·have h1 : ¬ i < a.o.length := fun e => absurd (show ((i : Nat) : Int) < (a.o.length : Int) by omega) (of_decide_eq_false h1)
  refine And.intro rfl (zAn (rcq [] (d := 6) (d2 := 0) (lv := []) (bs := []) (W := []) (m := 0) (df := []) trivial trivial .nil) (fun f => ?_))
  exact ⟨_, _, _, rfl⟩
end Go.Proofs.Ytknpgjeclmadkaa
namespace Go.Proofs.Ytknpgjeclmadkaa
open Go Go.RowKit
def NilOwn {α : Type} (L : Lay α) (H : Tr AObj) (v : Value) (l : List α) : Prop :=
 (v = .slice none 0 0 ∧ l = []) ∨ ∃ b, v = .slice (some ⟨b, 0, none⟩) l.length U ∧ b < JJ ∧ l ≠ [] ∧ H.get b = some (.cells (l.flatMap L.g) L.t)
theorem NilOwn.frz {dp : Prop} {P : Program} {α : Type} {L : Lay α} {H : Tr AObj} {v : Value} {l : List α} (hz : (P.info? L.t).map (·.size) = some L.k) (h : NilOwn L H v l) : FrzP dp P 0 H v (treeV L.k l.length (l.flatMap L.g)) := by
 rcases h with ⟨rfl, rfl⟩ | ⟨b, rfl, hb, _, h⟩
 ·exact .one _ _ (.nil _)
 ·exact .one _ _ (zHq L l hb h hz rfl rfl)
def nlO {α : Type} (L : Lay α) (l : List α) (H : Tr AObj) (n : Nat) : Res := match l with
 | [] => .ret (.slice none 0 0) H n []
 | x :: r => .ret (.slice (some ⟨n, 0, none⟩) (r.length + 1) U) (layN H n [((x :: r).flatMap L.g, L.t)]) (n + 1) []
theorem NilOwn.call {P : Program} {f : FuncId} {args targs : List Value} {v0 : Value} {H' : Tr AObj} {n' : Nat} {wr : List Nat} {α : Type} {L : Lay α} {l : List α} (hF : FnS P 0 f targs .e 0 (.ret v0 H' n' wr)) {H : Tr AObj} {n : Nat} (ha : FrL P 0 H args targs) (h : NilOwn L H' v0 l) :
  TOK P 0 (.call f args) ⟨.e, H, n, [], []⟩ (nlO L l H n) := by
 rcases h with ⟨rfl, rfl⟩ | ⟨b, rfl, hb, hl, h⟩
 ·exact zDe hF ha (.one _ _ (.plain _ rfl))
 ·cases l with
  | nil => exact absurd rfl hl
  | cons x r =>
   refine zAu (fun n => .slice (some ⟨n, 0, none⟩) (r.length + 1) U) [b] [((x :: r).flatMap L.g, L.t)] hF ha (by simp) (fun y hy => by simp at hy; subst hy; exact hb) rfl (fun i b' xs e hb' hc => ?_) (fun n => .sl _ _ _ _ _ (zAh (i := 0) (by simp) rfl))
   match i, hb', hc with
   | 0, hb', hc => cases hb'; cases hc; exact ⟨[], by rw [List.append_nil]; exact h, zAc L.g L.plain _, .inl rfl⟩
   | i + 1, hb', hc => simp at hb'
def nlT {α : Type} (L : Lay α) (l : List α) (H : Tr AObj) (n : Nat) (K : Res → Prop) : Prop := (l = [] → K (nlO L ([] : List α) H n)) ∧ ∀ x r, l = x :: r → K (nlO L (x :: r) H n)
theorem nlT_ok {α : Type} {L : Lay α} {l : List α} {H : Tr AObj} {n : Nat} {K : Res → Prop} (h : nlT L l H n K) : K (nlO L l H n) := by
 cases l with
 | nil => exact h.1 rfl
 | cons x r => exact h.2 x r rfl
end Go.Proofs.Ytknpgjeclmadkaa
namespace Go.Proofs.Ytknpgjeclmadkaa
open Go Go.RowKit
noncomputable def tbRw : Tb Try.prog 0 := tbOf mixed []
def otS (l : List RcX) (p : Nat × List RcX) (f : Nat → Option Value) : Fs := match p.2 with
 | [] => ⟨slots 5 [(0, trR l), (3, .slice none 0 0), (4, .int .i64 (p.1 : Nat))] f, heap 0 [], 0, [], []⟩
 | x :: o => ⟨slots 5 [(0, trR l), (3, .slice (some ⟨0, 0, none⟩) (o.length + 1) U), (4, .int .i64 (p.1 : Nat))] f, heap 1 [(0, .cells ((x :: o).flatMap layR.g) 48)], 1, [], []⟩
def otI (l : List RcX) (p : Nat × List RcX) : Prop := p.1 ≤ l.length ∧ p.2 = (l.take p.1).filter nop
theorem otI.step {l : List RcX} {i : Nat} {o : List RcX} (h : otI l (i, o)) (hi : i < l.length) : otI l (i + 1, o ++ [l[i]].filter nop) := by
 refine ⟨hi, ?_⟩
 have h2 : o = (l.take i).filter nop := h.2
 show o ++ [l[i]].filter nop = (l.take (i + 1)).filter nop
 rw [List.take_succ_eq_append_getElem hi, List.filter_append, h2]
theorem zIx (l : List RcX) (hl : l.length ≤ 1000000) : ∃ r, FnS Try.prog 0 47 [trR l] .e 0 r ∧ ∃ v H m wr, r = .ret v H m wr ∧ NilOwn layR H v (l.filter nop) := by
 have hz : (Try.prog.types[48]).size = 5 := by kernel_rfl
 have hz' : (Try.prog.info? 48).map (·.size) = some 5 := by kernel_rfl
 have hby : (Try.prog.types[48]).bytes ≤ 100 := by decide +kernel
 refine zCe mixed tbRw [] Try.func47 (c := bodyOf Try.f47) (by kernel_rfl) ?_
 refine zAi (otS l) (fun p => l.length - p.1) (otI l) (0, []) ⟨Nat.zero_le _, rfl⟩ (rcq [] ⟨⟨_, rfl, zAd 8 rfl⟩, ⟨_, rfl, .snil _ _⟩, ⟨_, rfl, .int _ _⟩, trivial⟩ trivial .nil) ?_
 rintro ⟨i, o⟩ f hinv
 have hil : i ≤ l.length := hinv.1
 have ho : o.length ≤ 1000000 := by
  have h2 : o = (l.take i).filter nop := hinv.2
  rw [h2]; exact Nat.le_trans (List.length_filter_le _ _) (by rw [List.length_take]; omega)
 cases o with
 | nil =>
  refine zAq tbRw [] 0 _ none mixed _ _ _ ?_
  refine ifK (fun h1 => ?_) (fun h1 => ?_)
  ·have h1 : i < l.length := by have h1 : ((i : Nat) : Int) < (l.length : Int) := of_decide_eq_true h1; omega
   have hstep := hinv.step h1
   refine ifK (fun _ => ?_) (fun h2 => absurd h2 (by simp [inI]; omega))
   refine Exists.intro l[i].n (Exists.intro l[i].t (Exists.intro l[i].c (Exists.intro l[i].ttl (Exists.intro l[i].d (And.intro (zAe layR h1) ?_)))))
   refine ifK (fun h2 => ?_) (fun h2 => ?_)
   ·have hn : [l[i]].filter nop = [l[i]] := by have h2 : (l[i].t != 41) = true := h2; rw [List.filter_cons_of_pos (by unfold nop; simpa using h2)]; rfl
    rw [hn] at hstep
    refine ifK (fun _ => ?_) (fun h2 => absurd h2 (by simp [inI]; omega))
    refine Exists.intro l[i].n (Exists.intro l[i].t (Exists.intro l[i].c (Exists.intro l[i].ttl (Exists.intro l[i].d (And.intro (zAe layR h1) ?_)))))
    exact ⟨(i + 1, [l[i]]), hstep, by show l.length - (i + 1) < l.length - i; omega, rcq [1] ⟨⟨_, rfl, zAd 8 rfl⟩, ⟨_, rfl, .sl _ _ _ _ _ rfl⟩, zAa rfl (by rw [wrapN (by omega) (by omega)]; omega), trivial⟩ ⟨bpo (zAc layR.g layR.plain [l[i]]), trivial⟩ .nil⟩
   ·have hn : [l[i]].filter nop = [] := by have h2 : (l[i].t != 41) = false := h2; rw [List.filter_cons_of_neg (by unfold nop; simpa using h2)]; rfl
    rw [hn, List.append_nil] at hstep
    exact ⟨(i + 1, []), hstep, by show l.length - (i + 1) < l.length - i; omega, rcq [] ⟨⟨_, rfl, zAd 8 rfl⟩, ⟨_, rfl, .snil _ _⟩, zAa rfl (by rw [wrapN (by omega) (by omega)]; omega), trivial⟩ trivial .nil⟩
  ·have h1 : ¬ i < l.length := fun e => absurd (show ((i : Nat) : Int) < (l.length : Int) by omega) (of_decide_eq_false h1)
   have he : l.filter nop = [] := by have h2 : ([] : List RcX) = (l.take i).filter nop := hinv.2; rw [h2, List.take_of_length_le (by omega)]
   rw [he]
   refine And.intro rfl (zAn (rcq [] (d := 5) (d2 := 0) (lv := [(3, .slice none 0 0)]) (bs := []) (W := []) (m := 0) (df := []) ⟨⟨_, rfl, .snil _ _⟩, trivial⟩ trivial .nil) (fun f => ?_))
   exact ⟨_, _, _, _, rfl, .inl ⟨rfl, rfl⟩⟩
 | cons x o =>
  refine zAq tbRw [] 0 _ none mixed _ _ _ ?_
  refine ifK (fun h1 => ?_) (fun h1 => ?_)
  ·have h1 : i < l.length := by have h1 : ((i : Nat) : Int) < (l.length : Int) := of_decide_eq_true h1; omega
   have hstep := hinv.step h1
   refine ifK (fun _ => ?_) (fun h2 => absurd h2 (by simp [inI]; omega))
   refine Exists.intro l[i].n (Exists.intro l[i].t (Exists.intro l[i].c (Exists.intro l[i].ttl (Exists.intro l[i].d (And.intro (zAe layR h1) ?_)))))
   refine ifK (fun h2 => ?_) (fun h2 => ?_)
   ·have hn : [l[i]].filter nop = [l[i]] := by have h2 : (l[i].t != 41) = true := h2; rw [List.filter_cons_of_pos (by unfold nop; simpa using h2)]; rfl
    rw [hn] at hstep
    refine ifK (fun _ => ?_) (fun h2 => absurd h2 (by simp [inI]; omega))
    refine Exists.intro l[i].n (Exists.intro l[i].t (Exists.intro l[i].c (Exists.intro l[i].ttl (Exists.intro l[i].d (And.intro (zAe layR h1) ?_)))))
    have hlen : ((x :: o).flatMap layR.g).length = (o.length + 1) * 5 := zAb layR.g 5 layR.len (x :: o)
    refine And.intro ?_ ?_
    ·have ho2 : o.length + 1 ≤ 1000000 := ho
     have := Nat.mul_le_mul (show o.length + 1 + 1 ≤ 2000000 by omega) hby
     simp only [Bool.and_eq_true, decide_eq_true_eq]
     refine ⟨⟨⟨⟨⟨⟨rfl, rfl⟩, Nat.ble_eq_true_of_le ?_⟩, rfl⟩, ?_⟩, ?_⟩, Nat.ble_eq_true_of_le ?_⟩
     ·rw [hz, hlen]; exact Nat.le_refl _
     ·omega
     ·omega
     ·rw [hz, hlen]; show _ ≤ 0 + (o.length + 1) * 5 + 5; omega
    have hnew : (((x :: o).flatMap layR.g).take ((o.length + 1) * (Try.prog.types[48]).size) ++ layR.g l[i]) = (x :: (o ++ [l[i]])).flatMap layR.g := by
     rw [hz, List.take_of_length_le (by rw [hlen]; exact Nat.le_refl _), ← List.cons_append, List.flatMap_append]; simp
    exact ⟨(i + 1, (x :: o) ++ [l[i]]), hstep, by show l.length - (i + 1) < l.length - i; omega, rcq [2] ⟨⟨_, rfl, zAd 8 rfl⟩, ⟨_, rfl, (by show RV _ (.slice _ (o.length + 1 + 1) U) (.slice _ ((o ++ [l[i]]).length + 1) U); rw [List.length_append]; exact .sl _ _ _ _ _ rfl)⟩, zAa rfl (by rw [wrapN (by omega) (by omega)]; omega), trivial⟩ ⟨⟨by decide, _, rfl, zDs hnew (zAc layR.g layR.plain _)⟩, trivial⟩ .nil⟩
   ·have hn : [l[i]].filter nop = [] := by have h2 : (l[i].t != 41) = false := h2; rw [List.filter_cons_of_neg (by unfold nop; simpa using h2)]; rfl
    rw [hn, List.append_nil] at hstep
    exact ⟨(i + 1, x :: o), hstep, by show l.length - (i + 1) < l.length - i; omega, rcq [0] ⟨⟨_, rfl, zAd 8 rfl⟩, ⟨_, rfl, .sl _ _ _ _ _ rfl⟩, zAa rfl (by rw [wrapN (by omega) (by omega)]; omega), trivial⟩ ⟨bpo (zAc layR.g layR.plain (x :: o)), trivial⟩ .nil⟩
  ·have h1 : ¬ i < l.length := fun e => absurd (show ((i : Nat) : Int) < (l.length : Int) by omega) (of_decide_eq_false h1)
   have he : l.filter nop = x :: o := by have h2 : x :: o = (l.take i).filter nop := hinv.2; rw [h2, List.take_of_length_le (by omega)]
   rw [he]
   refine And.intro rfl (zAn (rcq [0] (d := 5) (d2 := 1) (lv := [(3, .slice (some ⟨0, 0, none⟩) (o.length + 1) U)]) (bs := [(0, .cells ((x :: o).flatMap layR.g) 48)]) (W := []) (m := 1) (df := []) ⟨⟨_, rfl, .sl _ _ _ _ _ rfl⟩, trivial⟩ ⟨bpo (zAc layR.g layR.plain (x :: o)), trivial⟩ .nil) (fun f => ?_))
   exact ⟨_, _, _, _, rfl, .inr ⟨0, rfl, by decide, by simp, rfl⟩⟩
end Go.Proofs.Ytknpgjeclmadkaa
namespace Go.Proofs.Ytknpgjeclmadkaa
open Go Go.RowKit
theorem rmany_tr (l : List RcX) (hl : l.length ≤ 1000000000) : ∃ r, FnS Try.prog 0 36 [trR l] .e 0 r ∧ ∃ H m wr, r = .ret (.int .i64 (cntO l : Int)) H m wr := by
 refine zCe mixed tbRw [] Try.func36 (c := bodyOf Try.f36) (by kernel_rfl) ?_
 refine zAi (fun (i : Nat) f => ⟨slots 5 [(0, trR l), (3, .int .i64 (cntO (l.take i) : Int)), (4, .int .i64 (i : Nat))] f, heap 0 [], 0, [], []⟩) (fun i => l.length - i) (fun i => i ≤ l.length) 0 (Nat.zero_le _) (rcq [] ⟨⟨_, rfl, zAd 8 rfl⟩, ⟨_, rfl, .int _ _⟩, ⟨_, rfl, .int _ _⟩, trivial⟩ trivial .nil) ?_
 intro i f hi
 have hc : cntO (l.take i) ≤ 1000000000 := Nat.le_trans (List.length_filter_le _ _) (by rw [List.length_take]; omega)
 refine zAq tbRw [] 0 _ none mixed _ _ _ ?_
 refine ifK (fun h1 => ?_) (fun h1 => ?_)
 ·have h1 : i < l.length := by have h1 : ((i : Nat) : Int) < (l.length : Int) := of_decide_eq_true h1; omega
  refine ifK (fun _ => ?_) (fun h2 => absurd h2 (by simp [inI]; omega))
  refine Exists.intro l[i].n (Exists.intro l[i].t (Exists.intro l[i].c (Exists.intro l[i].ttl (Exists.intro l[i].d (And.intro (zAe layR h1) ?_)))))
  have hst : cntO (l.take (i + 1)) = cntO (l.take i) + ([l[i]].filter (fun x => decide (x.t = 41))).length := by unfold cntO; rw [List.take_succ_eq_append_getElem h1, List.filter_append, List.length_append]
  refine ifK (fun h2 => ?_) (fun h2 => ?_)
  ·have h2 : (l[i].t == 41) = true := h2
   rw [List.filter_cons_of_pos (by simpa using h2)] at hst
   refine ⟨i + 1, h1, by omega, ?_⟩
   rw [show ((cntO (l.take (i + 1)) : Nat) : Int) = ((cntO (l.take i) + 1 : Nat) : Int) by rw [hst]; rfl]
   exact rcq [] ⟨⟨_, rfl, zAd 8 rfl⟩, zAa rfl (by rw [wrapN (by omega) (by omega)]; omega), zAa rfl (by rw [wrapN (by omega) (by omega)]; omega), trivial⟩ trivial .nil
  ·have h2 : (l[i].t == 41) = false := h2
   rw [List.filter_cons_of_neg (by simpa using h2)] at hst
   refine ⟨i + 1, h1, by omega, ?_⟩
   rw [show ((cntO (l.take (i + 1)) : Nat) : Int) = ((cntO (l.take i) : Nat) : Int) by rw [hst]; rfl]
   exact rcq [] ⟨⟨_, rfl, zAd 8 rfl⟩, ⟨_, rfl, .int _ _⟩, zAa rfl (by rw [wrapN (by omega) (by omega)]; omega), trivial⟩ trivial .nil
 ·have h1 : ¬ i < l.length := fun e => absurd (show ((i : Nat) : Int) < (l.length : Int) by omega) (of_decide_eq_false h1)
  have hil : i = l.length := by omega
  subst hil
  rw [List.take_length]
  refine And.intro rfl (zAn (rcq [] (d := 5) (d2 := 0) (lv := [(3, .int .i64 (cntO l : Int))]) (bs := []) (W := []) (m := 0) (df := []) ⟨⟨_, rfl, .int _ _⟩, trivial⟩ trivial .nil) (fun f => ?_))
  exact ⟨_, _, _, rfl⟩
theorem r1_inj {a b : List RcX} (h : [trR a] = [trR b]) : a = b := by simp only [List.cons.injEq, and_true] at h; exact zAr layR h
noncomputable def ct_rmanyT : Ct Try.prog 0 := CtR.tree 36 (List RcX) (fun l => [trR l]) (fun l => l.length ≤ 1000000000) (fun l => .int .i64 (cntO l : Int)) (fun _ _ h => r1_inj h) (fun _ => rfl)
 (fun l hl => by obtain ⟨r, hF, H, m, wr, rfl⟩ := rmany_tr l hl; exact ⟨_, _, _, _, hF, .one _ _ (.plain _ rfl)⟩)
noncomputable def zMd : Ct Try.prog 0 := CtR.lend 47 (List RcX) (fun l => [trR l]) (fun _ _ => True) (fun l => [trR l]) (fun l => l.length ≤ 1000000) (fun l => trR (l.filter nop)) (fun _ _ _ h _ _ => r1_inj h) (fun _ _ _ => .cons _ _ _ _ (.one _ _ (.deep _ _ _ _ _ _ trivial)) .nil)
 (fun l hl => by obtain ⟨r, hF, v, H, m, wr, rfl, hz⟩ := zIx l hl; exact ⟨_, _, _, _, hF, hz.frz (by kernel_rfl)⟩)
noncomputable def zMc : Ct Try.prog 0 :=
 CtR.ct { f := 47, X := List RcX, pre := fun l a _ _ => a = [trR l] ∧ l.length ≤ 1000000, out := fun l H n => nlO layR (l.filter nop) H n,
          ok := fun l a H n ⟨h1, h2⟩ => by
           subst h1
           obtain ⟨r, hF, v, H', m, wr, rfl, hz⟩ := zIx l h2
           exact hz.call hF (.cons _ _ _ _ (.one _ _ (.deep _ _ _ _ _ _ trivial)) .nil),
          uniq := fun x y a H n ⟨h1, _⟩ ⟨k1, _⟩ => by rw [h1] at k1; rw [r1_inj k1],
          tr := fun l H n K => nlT layR (l.filter nop) H n K, trOk := fun _ _ _ _ h => nlT_ok h }
noncomputable def tbRs : Tb Try.prog 0 := tbOf mixed [zMd]
end Go.Proofs.Ytknpgjeclmadkaa
namespace Go.Proofs.Ytknpgjeclmadkaa
open Go Go.RowKit
noncomputable def zRb : Ct Try.prog 0 := Ct.inl (tbOf mixed []) mixed [] 41 Try.f41 Try.func41 (bodyOf Try.f41) (by kernel_rfl)
end Go.Proofs.Ytknpgjeclmadkaa
namespace Go.Proofs.Ytknpgjeclmadkaa
open Go Go.RowKit
noncomputable def tbSn : Tb Try.prog 0 := tbOf mixed [zNx]
def nmV (m : MsT) (b1 b2 b3 b4 : Nat) : Value := .agg #[.int .i64 m.id, .int .i64 m.fl, ownV b1 m.q, ownV b2 m.an, ownV b3 m.ns, ownV b4 m.ar]
def nmC (m : MsT) : List (List Value × TypeId) := [(m.q.flatMap layQ.g, ownT 25 57 m.q), (m.an.flatMap layR.g, ownT 23 48 m.an), (m.ns.flatMap layR.g, ownT 23 48 m.ns), (m.ar.flatMap layR.g, ownT 23 48 m.ar)]
theorem strip_nm (m : MsT) (hf : m.fit 1000000) : ∃ r, FnS Try.prog 0 23 [m.v] .e 0 r ∧ ∃ bq b2 b3 b4 vq H k wr, r = .ret (.agg #[.int .i64 m.id, .int .i64 m.fl, vq, ownV b2 m.strip.an, ownV b3 m.strip.ns, ownV b4 m.strip.ar]) H k wr ∧
  [bq, b2, b3, b4].Nodup ∧ (∀ x ∈ [bq, b2, b3, b4], x < JJ) ∧ (∃ rest, H.get bq = some (.cells (m.q.flatMap layQ.g ++ rest) (ownT 25 57 m.q))) ∧ H.get b2 = some (ownB layR 23 m.strip.an) ∧ H.get b3 = some (ownB layR 23 m.strip.ns) ∧ H.get b4 = some (ownB layR 23 m.strip.ar) ∧
  (vq = .slice none 0 0 ∧ m.q = [] ∨ vq = .slice (some ⟨bq, 0, none⟩) m.q.length U ∧ m.q ≠ []) := by
 obtain ⟨f1, f2, f3, f4⟩ := hf
 have hby : (Try.prog.types[57]).bytes ≤ 100 := by decide +kernel
 refine zCe mixed tbSn [] Try.func23 (c := bodyOf Try.f23) (by kernel_rfl) ?_
 refine ifK (fun h0 => ?_) (fun h0 => ?_)
 ·have h0 : m.q = [] := List.eq_nil_of_length_eq_zero (Nat.eq_of_beq_eq_true h0)
  refine And.intro (by kernel_rfl) ?_
  refine Exists.intro (m.an, trR m.an) (And.intro ⟨rfl, .tree _ _ _, by show m.an.length ≤ _; omega⟩ ?_)
  refine Exists.intro (m.ns, trR m.ns) (And.intro ⟨rfl, .tree _ _ _, by show m.ns.length ≤ _; omega⟩ ?_)
  refine Exists.intro (m.ar, trR m.ar) (And.intro ⟨rfl, .tree _ _ _, by show m.ar.length ≤ _; omega⟩ ?_)
  refine ⟨0, _, _, _, _, _, _, _, rfl, ?_, ?_, ⟨_, by rw [h0]; rfl⟩, rfl, rfl, rfl, .inl ⟨rfl, h0⟩⟩
  ·decide
  ·intro x hx; simp only [List.mem_cons, List.not_mem_nil, or_false] at hx; rcases hx with rfl | rfl | rfl | rfl <;> decide
 ·have hne : m.q ≠ [] := fun e => by rw [e] at h0; exact absurd h0 (by decide)
  refine And.intro (by simp only [Bool.and_eq_true, decide_eq_true_eq]; have := Nat.mul_le_mul f1 hby; and_intros <;> omega) ?_
  refine And.intro (by kernel_rfl) ?_
  refine Exists.intro (m.an, trR m.an) (And.intro ⟨rfl, .tree _ _ _, by show m.an.length ≤ _; omega⟩ ?_)
  refine Exists.intro (m.ns, trR m.ns) (And.intro ⟨rfl, .tree _ _ _, by show m.ns.length ≤ _; omega⟩ ?_)
  refine Exists.intro (m.ar, trR m.ar) (And.intro ⟨rfl, .tree _ _ _, by show m.ar.length ≤ _; omega⟩ ?_)
  refine ⟨_, _, _, _, _, _, _, _, rfl, ?_, ?_, ⟨[], ?_⟩, rfl, rfl, rfl, .inr ⟨rfl, hne⟩⟩
  ·decide
  ·intro x hx; simp only [List.mem_cons, List.not_mem_nil, or_false] at hx; rcases hx with rfl | rfl | rfl | rfl <;> decide
  ·rw [List.append_nil, show ownT 25 57 m.q = 57 by cases hq : m.q with | nil => exact absurd hq hne | cons a b => rfl]; rfl
theorem ownT_rec {α : Type} {e0 e : TypeId} {l : List α} (h0 : Try.prog.underlying e0 ≠ some (.int .u8)) (h : Try.prog.underlying e ≠ some (.int .u8)) : Try.prog.underlying (ownT e0 e l) ≠ some (.int .u8) := match l with
 | [] => h0
 | _ :: _ => h
theorem un_msg : Try.prog.underlying 25 ≠ some (.int .u8) := by
 have : (match Try.prog.underlying 25 with | some (.int .u8) => false | _ => true) = true := by kernel_rfl
 intro e; rw [e] at this; cases this
theorem un_qu : Try.prog.underlying 57 ≠ some (.int .u8) := by
 have : (match Try.prog.underlying 57 with | some (.int .u8) => false | _ => true) = true := by kernel_rfl
 intro e; rw [e] at this; cases this
theorem zIr {σ : Nat → Nat → Prop} {α : Type} {b b' : Nat} (l : List α) (h : σ b b') : NwV σ (ownV b l) (ownV b' l) := .sl _ _ _ _ _ h
theorem nq_nw {σ : Nat → Nat → Prop} {α : Type} {b b' : Nat} {l : List α} {v : Value} (h : σ b b') (hv : v = .slice none 0 0 ∧ l = [] ∨ v = .slice (some ⟨b, 0, none⟩) l.length U ∧ l ≠ []) : NwV σ v (ownV b' l) := by
 rcases hv with ⟨rfl, rfl⟩ | ⟨rfl, hl⟩
 ·exact .nl b 0 b' h
 ·cases l with
  | nil => exact absurd rfl hl
  | cons x l => exact .sl _ _ _ _ _ h
theorem strip_ok (x : LtM) (as0 : List Value) (H : Tr AObj) (n : Nat) (h : as0 = [x.v] ∧ x.at H ∧ x.m.fit 1000000) : TOK Try.prog 0 (.call 23 as0) ⟨.e, H, n, [], []⟩ (.ret (nmV x.m.strip n (n + 1) (n + 2) (n + 3)) (layN H n (nmC x.m.strip)) (n + 4) []) := by
 obtain ⟨h1, h2, h3⟩ := h
 subst h1
 obtain ⟨r, hF, bq, b2, b3, b4, vq, H', k, wr, rfl, hnd, hJ, ⟨rest, g1⟩, g2, g3, g4, hv⟩ := strip_nm x.m h3
 refine zAu (fun n => nmV x.m.strip n (n + 1) (n + 2) (n + 3)) [bq, b2, b3, b4] (nmC x.m.strip) hF (.cons _ _ _ _ (LtM.frz h2) .nil) hnd hJ rfl (fun i b xs e hb hc => ?_)
  (fun n => .agg _ _ (.cons _ _ _ _ (.plain _ rfl) (.cons _ _ _ _ (.plain _ rfl) (.cons _ _ _ _ (nq_nw (zAh (i := 0) hnd rfl) hv) (.cons _ _ _ _ (zIr _ (zAh (i := 1) hnd rfl)) (.cons _ _ _ _ (zIr _ (zAh (i := 2) hnd rfl)) (.cons _ _ _ _ (zIr _ (zAh (i := 3) hnd rfl)) .nil)))))))
 match i, hb, hc with
 | 0, hb, hc => cases hb; cases hc; exact ⟨rest, g1, zAc layQ.g layQ.plain _, .inr (ownT_rec un_msg un_qu)⟩
 | 1, hb, hc => cases hb; cases hc; exact ⟨[], by rw [List.append_nil]; exact g2, zAc layR.g layR.plain _, .inl rfl⟩
 | 2, hb, hc => cases hb; cases hc; exact ⟨[], by rw [List.append_nil]; exact g3, zAc layR.g layR.plain _, .inl rfl⟩
 | 3, hb, hc => cases hb; cases hc; exact ⟨[], by rw [List.append_nil]; exact g4, zAc layR.g layR.plain _, .inl rfl⟩
 | i + 4, hb, hc => simp at hb
theorem strip_uq (x x' : LtM) (a : List Value) (H : Tr AObj) (m : Nat) (h : a = [x.v] ∧ x.at H ∧ x.m.fit 1000000) (k : a = [x'.v] ∧ x'.at H ∧ x'.m.fit 1000000) : Res.ret (nmV x.m.strip m (m + 1) (m + 2) (m + 3)) (layN H m (nmC x.m.strip)) (m + 4) [] = Res.ret (nmV x'.m.strip m (m + 1) (m + 2) (m + 3)) (layN H m (nmC x'.m.strip)) (m + 4) [] := by
 obtain ⟨h1, h2, _⟩ := h
 obtain ⟨k1, k2, _⟩ := k
 rw [h1] at k1
 simp only [List.cons.injEq, and_true] at k1
 rw [LtM.uniq k1 h2 k2]
end Go.Proofs.Ytknpgjeclmadkaa
namespace Go.Proofs.Ytknpgjeclmadkaa
open Go Go.RowKit
end Go.Proofs.Ytknpgjeclmadkaa
namespace Go.Proofs.Ytknpgjeclmadkaa
open Go Go.RowKit
section
variable {ev : Operand → Value} {G : Gh} {n : Nat} {o : Oper}
end
end Go.Proofs.Ytknpgjeclmadkaa
namespace Go.Proofs.Ytknpgjeclmadkaa
open Go Go.RowKit
noncomputable def inl_put : Ct Try.prog 0 := Ct.inl (tbOf mixed []) mixed [] 59 Try.f59 Try.func59 (bodyOf Try.f59) (by kernel_rfl)
noncomputable def tbPk3 : Tb Try.prog 0 := tbOf mixed [inl_put]
def hi8 (v : Nat) : UInt8 := UInt8.ofNat (v / 256)
def lo8 (v : Nat) : UInt8 := UInt8.ofNat (v % 256)
theorem fdivP (v : Nat) (k : Nat) : Int.fdiv (v : Int) (2 ^ k) = ((v / 2 ^ k : Nat) : Int) := by
 have : ((2 : Int) ^ k) = ((2 ^ k : Nat) : Int) := by norm_cast
 rw [this, Int.ofNat_fdiv]
theorem wrap8 {n : Nat} : IntKind.u8.wrap (n : Int) = ((UInt8.ofNat n).toNat : Int) := by
 have h : IntKind.u8.wrap (n : Int) = (n : Int) % 256 := rfl
 rw [h]; simp
theorem put16_fn (v : Nat) (h : v < 65536) : ∃ r, FnS Try.prog 0 35 [.int .i64 (v : Int)] .e 0 r ∧ ∃ H m wr, r = .ret (.tuple #[.slice (some ⟨4, 0, none⟩) 2 U, .int .i64 0]) H m wr ∧ H.get 4 = some (.cells ([hi8 v, lo8 v].map byV) 5) := by
 have a1 : shrI .i64 (v : Int) (IntKind.i64.wrap (8 * 2)) = 0 := by
  show Int.fdiv (v : Int) (2 ^ 16) = 0
  rw [fdivP]; omega
 have a2 : IntKind.u8.wrap (shrI .i64 (v : Int) (IntKind.i64.wrap (8 * IntKind.i64.wrap (IntKind.i64.wrap (2 - 1) - 0)))) = ((hi8 v).toNat : Int) := by
  show IntKind.u8.wrap (Int.fdiv (v : Int) (2 ^ 8)) = _
  rw [fdivP]; exact wrap8
 have a3 : IntKind.u8.wrap (shrI .i64 (v : Int) (IntKind.i64.wrap (8 * IntKind.i64.wrap (IntKind.i64.wrap (2 - 1) - IntKind.i64.wrap (0 + 1))))) = ((lo8 v).toNat : Int) := by
  show IntKind.u8.wrap (Int.fdiv (v : Int) (2 ^ 0)) = _
  rw [fdivP]
  have : IntKind.u8.wrap ((v / 2 ^ 0 : Nat) : Int) = ((v / 2 ^ 0 : Nat) : Int) % 256 := rfl
  rw [this]; unfold lo8; simp
 refine zCe mixed tbPk3 [] Try.func35 (c := bodyOf Try.f35) (by kernel_rfl) ?_
 refine ifK (fun g => by have g : (shrI .i64 (v : Int) (IntKind.i64.wrap (8 * 2)) != 0) = true := g; rw [a1] at g; cases g) (fun _ => ?_)
 refine And.intro (by kernel_rfl) ?_
 refine ⟨_, _, _, rfl, ?_⟩
 show some (AObj.cells [.int .u8 _, .int .u8 _] _) = _
 rw [a2, a3]; rfl
noncomputable def ct_put16 : Ct Try.prog 0 :=
 CtR.ct { f := 35, X := Nat, pre := fun v a _ _ => a = [.int .i64 (v : Int)] ∧ v < 65536,
          out := fun v H n => .ret (.tuple #[.slice (some ⟨n, 0, none⟩) 2 U, .int .i64 0]) (layN H n [([hi8 v, lo8 v].map byV, 5)]) (n + 1) [],
          ok := fun v a H n ⟨h1, h2⟩ => by
           subst h1
           obtain ⟨r, hF, H', m, wr, rfl, hg⟩ := put16_fn v h2
           refine zIi (fun n => .tuple #[.slice (some ⟨n, 0, none⟩) 2 U, .int .i64 0]) [] [4] [([hi8 v, lo8 v].map byV, 5)] hF (fun k _ => Nat.zero_le k) (fun i j o hij hi => by simp at hi) (ArgOK.of (.cons _ _ _ _ (.int _ _) .nil)) (fun k o hk => by cases hk) (by decide) (fun x hx => by simp at hx; subst hx; exact ⟨Nat.zero_le _, by decide⟩) rfl (fun i b xs e hb hc => ?_)
            (fun n => .tuple _ _ (.cons _ _ _ _ (.sl _ _ _ _ _ (tau_at 0 (by decide) (Nat.zero_le _) rfl)) (.cons _ _ _ _ (.int _ _) .nil)))
           match i, hb, hc with
           | 0, hb, hc => cases hb; cases hc; exact ⟨hg, zCb _⟩
           | i + 1, hb, hc => simp at hb,
          uniq := fun x y a H n ⟨h1, _⟩ ⟨k1, _⟩ => by
           rw [h1] at k1
           simp only [List.cons.injEq, Value.int.injEq, true_and, and_true] at k1
           have : x = y := by omega
           rw [this] }
end Go.Proofs.Ytknpgjeclmadkaa
namespace Go.Proofs.Ytknpgjeclmadkaa
open Go Go.RowKit
noncomputable def inl_rput : Ct Try.prog 0 := Ct.inl (tbOf mixed []) mixed [] 79 Try.f79 Try.func79 (bodyOf Try.f79) (by kernel_rfl)
noncomputable def tbWr5r : Tb Try.prog 0 := tbOf mixed [inl_rput]
def by2 (v : Nat) : Bl := [hi8 v, lo8 v]
theorem wrapD (v k : Nat) : IntKind.u8.wrap (Int.fdiv (v : Int) (2 ^ k)) = ((UInt8.ofNat (v / 2 ^ k)).toNat : Int) := by rw [fdivP]; exact wrap8
theorem lo8_eq (v : Nat) : UInt8.ofNat (v / 2 ^ 0) = lo8 v := by
 unfold lo8; apply UInt8.toNat_inj.1; simp
theorem rput16_fn (v : Int) : ∃ r, FnS Try.prog 0 60 [.int .i64 v] .e 0 r ∧ ∃ H m wr, (0 ≤ v ∧ v ≤ 65535 ∧ r = .ret (.tuple #[.slice (some ⟨3, 0, none⟩) 2 U, .int .i64 0]) H m wr ∧ H.get 3 = some (.cells ((by2 v.toNat).map byV) 5) ∨ ¬ (0 ≤ v ∧ v ≤ 65535) ∧ r = .ret (.tuple #[.slice none 0 0, .int .i64 5]) H m wr) := by
 have a1 : shrI .i64 v (IntKind.i64.wrap (8 * 2)) = Int.fdiv v 65536 := rfl
 refine zCe mixed tbWr5r [] Try.func60 (c := bodyOf Try.f60) (by kernel_rfl) ?_
 refine ifK (fun g => ?_) (fun g => ?_)
 ·have g := of_decide_eq_true g
  exact ⟨_, _, _, .inr ⟨by omega, rfl⟩⟩
 have g : ¬ v < 0 := of_decide_eq_false g
 obtain ⟨k, rfl⟩ : ∃ k : Nat, v = (k : Int) := ⟨v.toNat, by omega⟩
 have a2 : Int.fdiv (k : Int) 65536 = ((k / 65536 : Nat) : Int) := by have := fdivP k 16; simpa using this
 refine ifK (fun g2 => ?_) (fun g2 => ?_)
 ·have g2 : (shrI .i64 (k : Int) (IntKind.i64.wrap (8 * 2)) != 0) = true := g2
  rw [a1, a2] at g2
  have g2 : ((k / 65536 : Nat) : Int) ≠ 0 := by simpa using g2
  exact ⟨_, _, _, .inr ⟨by omega, rfl⟩⟩
 have g2 : (shrI .i64 (k : Int) (IntKind.i64.wrap (8 * 2)) != 0) = false := g2
 rw [a1, a2] at g2
 have g2 : ((k / 65536 : Nat) : Int) = 0 := by simpa using g2
 refine And.intro (by kernel_rfl) ?_
 refine ⟨_, _, _, .inl ⟨by omega, by omega, rfl, ?_⟩⟩
 show some (AObj.cells [.int .u8 (IntKind.u8.wrap (Int.fdiv (k : Int) (2 ^ 8))), .int .u8 (IntKind.u8.wrap (Int.fdiv (k : Int) (2 ^ 0)))] _) = _
 rw [wrapD, wrapD, lo8_eq]; rfl
noncomputable def ct_rput16 : Ct Try.prog 0 :=
 CtR.ct { f := 60, X := Int, pre := fun v a _ _ => a = [.int .i64 v],
          out := fun v H n => if 0 ≤ v ∧ v ≤ 65535 then .ret (.tuple #[.slice (some ⟨n, 0, none⟩) 2 U, .int .i64 0]) (layN H n [((by2 v.toNat).map byV, 5)]) (n + 1) [] else .ret (.tuple #[.slice none 0 0, .int .i64 5]) H n [],
          tr := fun v H n K => brK (decide (0 ≤ v ∧ v ≤ 65535)) (K (.ret (.tuple #[.slice (some ⟨n, 0, none⟩) 2 U, .int .i64 0]) (layN H n [((by2 v.toNat).map byV, 5)]) (n + 1) [])) (K (.ret (.tuple #[.slice none 0 0, .int .i64 5]) H n [])),
          trOk := fun v H n K h => by
           by_cases hv : 0 ≤ v ∧ v ≤ 65535
           ·rw [if_pos hv]; rw [decide_eq_true hv] at h; exact h
           ·rw [if_neg hv]; rw [decide_eq_false hv] at h; exact h,
          ok := fun v a H n h1 => by
           subst h1
           obtain ⟨r, hF, H', m, wr, ⟨p1, p2, rfl, hg⟩ | ⟨p1, rfl⟩⟩ := rput16_fn v
           ·rw [if_pos ⟨p1, p2⟩]
            refine zIi (fun n => .tuple #[.slice (some ⟨n, 0, none⟩) 2 U, .int .i64 0]) [] [3] [((by2 v.toNat).map byV, 5)] hF (fun k _ => Nat.zero_le k) (fun i j o hij hi => by simp at hi) (ArgOK.of (.cons _ _ _ _ (.int _ _) .nil)) (fun k o hk => by cases hk) (by decide) (fun x hx => by simp at hx; subst hx; exact ⟨Nat.zero_le _, by decide⟩) rfl (fun i b xs e hb hc => ?_)
             (fun n => .tuple _ _ (.cons _ _ _ _ (.sl _ _ _ _ _ (tau_at 0 (by decide) (Nat.zero_le _) rfl)) (.cons _ _ _ _ (.int _ _) .nil)))
            match i, hb, hc with
            | 0, hb, hc => cases hb; cases hc; exact ⟨hg, zCb _⟩
            | i + 1, hb, hc => simp at hb
           ·rw [if_neg p1]
            exact zDf hF rfl rfl H n,
          uniq := fun x y a H n h1 k1 => by
           rw [h1] at k1
           simp only [List.cons.injEq, Value.int.injEq, true_and, and_true] at k1
           rw [k1] }
end Go.Proofs.Ytknpgjeclmadkaa
namespace Go.Proofs.Ytknpgjeclmadkaa
open Go Go.RowKit
noncomputable def tbRw3 : Tb Try.prog 0 := tbOf mixed [zMc]
theorem rstrip_s (m : MsT) (hf : m.fit 1000000) : ∃ r, FnS Try.prog 0 24 [m.v] .e 0 r ∧ ∃ vq va H k wr, r = .ret (.agg #[.int .i64 m.id, .int .i64 m.fl, vq, trR m.strip.an, trR m.strip.ns, va]) H k wr ∧ NilOwn layR H va m.strip.ar ∧
  ∃ b, vq = .slice (some ⟨b, 0, none⟩) m.q.length (capO m.q) ∧ b < JJ ∧ H.get b = some (.cells (m.q.flatMap layQ.g) 57) ∧ ∀ b', va = .slice (some ⟨b', 0, none⟩) m.strip.ar.length U → b' ≠ b := by
 obtain ⟨f1, f2, f3, f4⟩ := hf
 have hby : (Try.prog.types[57]).bytes ≤ 100 := by decide +kernel
 refine zPt mixed tbRw3 Try.func24 (c := bodyOf Try.f24) (by kernel_rfl) ?_
 refine zJv (zAq tbRs [] 0 _ none mixed _ _ _ ?_)
 refine zJv (zAq tbRs [] 0 _ none mixed _ _ _ ?_)
 refine ifK (fun h0 => ?_) (fun h0 => ?_)
 ·have h0 : m.q = [] := List.eq_nil_of_length_eq_zero (Nat.eq_of_beq_eq_true h0)
  refine zJv (zAq tbRs [] 0 _ none mixed _ _ _ ?_)
  refine Exists.intro m.an (And.intro ⟨rfl, trivial, by show m.an.length ≤ _; omega⟩ ?_)
  refine zJv (zAq tbRs [] 0 _ none mixed _ _ _ ?_)
  refine Exists.intro m.ns (And.intro ⟨rfl, trivial, by show m.ns.length ≤ _; omega⟩ ?_)
  refine zAq tbRw3 [] 0 _ none mixed _ _ _ ?_
  refine Exists.intro m.ar (And.intro (And.intro rfl (Nat.le_trans f4 (Nat.le_refl _))) ?_)
  refine And.intro (fun hA => ?_) (fun y l hA => ?_)
  ·refine ⟨_, _, _, _, _, rfl, .inl ⟨rfl, hA⟩, 2, ?_, by decide, ?_, fun b' h => by cases h⟩
   ·rw [h0]; rfl
   ·rw [h0]; kernel_rfl
  ·have hA : m.strip.ar = y :: l := hA
   rw [hA]
   refine ⟨_, _, _, _, _, rfl, .inr ⟨3, rfl, by decide, by simp, by kernel_rfl⟩, 2, ?_, by decide, ?_, fun b' h => by cases h; decide⟩
   ·rw [h0]; rfl
   ·rw [h0]; kernel_rfl
 ·have hne : m.q ≠ [] := fun e => by rw [e] at h0; exact absurd h0 (by decide)
  have hc : capO m.q = U := by cases hq : m.q with | nil => exact absurd hq hne | cons a b => rfl
  refine And.intro (by simp only [Bool.and_eq_true, decide_eq_true_eq, Nat.zero_add]; have := Nat.mul_le_mul f1 hby; and_intros <;> omega) ?_
  refine zJv (zAq tbRs [] 0 _ none mixed _ _ _ ?_)
  refine Exists.intro m.an (And.intro ⟨rfl, trivial, by show m.an.length ≤ _; omega⟩ ?_)
  refine zJv (zAq tbRs [] 0 _ none mixed _ _ _ ?_)
  refine Exists.intro m.ns (And.intro ⟨rfl, trivial, by show m.ns.length ≤ _; omega⟩ ?_)
  refine zAq tbRw3 [] 0 _ none mixed _ _ _ ?_
  refine Exists.intro m.ar (And.intro (And.intro rfl (Nat.le_trans f4 (Nat.le_refl _))) ?_)
  refine And.intro (fun hA => ?_) (fun y l hA => ?_)
  ·refine ⟨_, _, _, _, _, rfl, .inl ⟨rfl, hA⟩, 3, ?_, by decide, ?_, fun b' h => by cases h⟩
   ·rw [hc, Nat.zero_add]
   ·kernel_rfl
  ·have hA : m.strip.ar = y :: l := hA
   rw [hA]
   refine ⟨_, _, _, _, _, rfl, .inr ⟨4, rfl, by decide, by simp, by kernel_rfl⟩, 3, ?_, by decide, ?_, fun b' h => by cases h; decide⟩
   ·rw [hc, Nat.zero_add]
   ·kernel_rfl
end Go.Proofs.Ytknpgjeclmadkaa
namespace Go.Proofs.Ytknpgjeclmadkaa
open Go Go.RowKit
def overL {α : Type} (x : α) (l : List α) (i : Nat) : List α := List.replicate i x ++ l.drop i
theorem zFs {α : Type} (x : α) (l : List α) (i : Nat) (h : i < l.length) : (overL x l i).set i x = overL x l (i + 1) := by
 unfold overL
 rw [List.set_append_right _ _ (by simp), List.length_replicate, Nat.sub_self, List.drop_eq_getElem_cons h, List.set_cons_zero, List.replicate_succ', List.append_assoc]; rfl
theorem zBd {α : Type} (x : α) (l : List α) (i : Nat) (h : i ≤ l.length) : (overL x l i).length = l.length := by
 unfold overL; rw [List.length_append, List.length_replicate, List.length_drop]; omega
theorem zFr {α : Type} (x : α) (l : List α) : overL x l l.length = List.replicate l.length x := by unfold overL; rw [List.drop_length, List.append_nil]
theorem plQ (l : List QuX) : plainL (l.flatMap layQ.g) = true := zAc layQ.g layQ.plain l
theorem plR (l : List RcX) : plainL (l.flatMap layR.g) = true := zAc layR.g layR.plain l
noncomputable def tbOv : Tb Try.prog 0 := tbOf mixed []
def ov0 (id fl : Int) (ql : List QuX) (al nl rl : List RcX) (cq ca cn cr : Nat) (eq ea en er : TypeId) (i : Nat) (f : Nat → Option Value) : Fs := ⟨slots 6 [(1, .pointer (some ⟨4, 0, none⟩)), (2, .int .i64 (i : Nat))] f, heap 4 [(0, .cells ((overL qu9 ql i).flatMap layQ.g) eq), (1, .cells (al.flatMap layR.g) ea), (2, .cells (nl.flatMap layR.g) en), (3, .cells (rl.flatMap layR.g) er), (4, .cells [.int .i64 id, .int .i64 fl, .slice (some ⟨0, 0, none⟩) ql.length cq, .slice (some ⟨1, 0, none⟩) al.length ca, .slice (some ⟨2, 0, none⟩) nl.length cn, .slice (some ⟨3, 0, none⟩) rl.length cr] 25)], 5, [0, 1, 2, 3], []⟩
theorem ov0_in (id fl : Int) (ql : List QuX) (al nl rl : List RcX) (cq ca cn cr : Nat) (eq ea en er : TypeId) (hl : ql.length ≤ 1000000) {s : Fs} {K : Ex → Fs → Prop} (h0 : ∃ f, RcM Try.prog 0 4 (1 + (Try.f17.ntmps - 1)) none s (ov0 id fl ql al nl rl cq ca cn cr eq ea en er 0 f))
  (hK : ∀ f, K (.exit 0) (ov0 id fl ql al nl rl cq ca cn cr eq ea en er ql.length f)) : LW Try.prog 0 4 (1 + (Try.f17.ntmps - 1)) none (loopAt Try.f17 0) s K := by
 have hsz : (Try.prog.types[57]).size = 3 := by kernel_rfl
 refine zAi (ov0 id fl ql al nl rl cq ca cn cr eq ea en er) (fun i => ql.length - i) (fun i => i ≤ ql.length) 0 (Nat.zero_le _) h0 ?_
 rintro i f hi
 have hi : i ≤ ql.length := hi
 refine zAq tbOv [0, 1, 2, 3, 900003] 4 _ none mixed _ _ _ ?_
 refine ifK (fun h1 => ?_) (fun h1 => ?_)
 ·have h1 : i < ql.length := by have h1 : ((i : Nat) : Int) < (ql.length : Int) := of_decide_eq_true h1; omega
  refine ifK (fun _ => ?_) (fun h2 => absurd h2 (by simp [inI]; omega))
  refine Exists.intro undef (Exists.intro [((0 : Nat), some (AObj.cells ((overL qu9 ql (i + 1)).flatMap layQ.g) eq))] (Exists.intro (0 : Nat) (And.intro ?_ ?_)))
  ·refine zFf (b := 0) (off := 0 + i * 3) (sz := 3) (bytes := 32) (z := qu0.v) (v := qu9.v) (C := (overL qu9 ql i).flatMap layQ.g) rfl ?_ rfl rfl zKd rfl rfl ?_ ?_
   ·show Value.pointer _ = _
    rw [hsz]; rfl
   ·rw [zAb layQ.g layQ.k layQ.len, zBd _ _ _ hi]
    have : i * 3 + 3 ≤ ql.length * 3 := by omega
    show 0 + i * 3 + 3 ≤ ql.length * 3
    omega
   ·have := zHn layQ [] [] (overL qu9 ql i) i qu9 (by rw [zBd _ _ _ hi]; exact h1)
    rw [zFs _ _ _ h1] at this
    simp only [List.nil_append, List.append_nil, List.length_nil] at this
    exact this
  exact ⟨i + 1, h1, by show ql.length - (i + 1) < ql.length - i; omega, rcq [4] ⟨⟨_, rfl, .ptr _ _ _ rfl⟩, zAa rfl (by rw [wrapN (by omega) (by omega)]; omega), trivial⟩ ⟨bpo (plQ _), bpo (plR _), bpo (plR _), bpo (plR _), ⟨by decide, _, rfl, RO.cells [.int .i64 id, .int .i64 fl, .slice (some ⟨0, 0, none⟩) ql.length cq, .slice (some ⟨1, 0, none⟩) al.length ca, .slice (some ⟨2, 0, none⟩) nl.length cn, .slice (some ⟨3, 0, none⟩) rl.length cr] [] _ _ (.cons _ _ _ _ (.int _ _) (.cons _ _ _ _ (.int _ _) (.cons _ _ _ _ (.sl _ _ _ _ _ rfl) (.cons _ _ _ _ (.sl _ _ _ _ _ rfl) (.cons _ _ _ _ (.sl _ _ _ _ _ rfl) (.cons _ _ _ _ (.sl _ _ _ _ _ rfl) .nil))))))⟩, trivial⟩ .nil⟩
 ·have h1 : i = ql.length := by have h1 : ¬ ((i : Nat) : Int) < (ql.length : Int) := of_decide_eq_false h1; omega
  subst h1
  exact And.intro rfl (zAn (rcq [4] (d := 6) (d2 := 4) (lv := [(1, .pointer (some ⟨4, 0, none⟩)), (2, .int .i64 ((ql.length : Nat) : Int))]) (bs := [(0, .cells ((overL qu9 ql ql.length).flatMap layQ.g) eq), (1, .cells (al.flatMap layR.g) ea), (2, .cells (nl.flatMap layR.g) en), (3, .cells (rl.flatMap layR.g) er), (4, .cells [.int .i64 id, .int .i64 fl, .slice (some ⟨0, 0, none⟩) ql.length cq, .slice (some ⟨1, 0, none⟩) al.length ca, .slice (some ⟨2, 0, none⟩) nl.length cn, .slice (some ⟨3, 0, none⟩) rl.length cr] 25)]) (W := [0, 1, 2, 3]) (m := 5) (df := []) ⟨⟨_, rfl, .ptr _ _ _ rfl⟩, ⟨_, rfl, .int _ _⟩, trivial⟩ ⟨bpo (plQ _), bpo (plR _), bpo (plR _), bpo (plR _), ⟨by decide, _, rfl, RO.cells [.int .i64 id, .int .i64 fl, .slice (some ⟨0, 0, none⟩) ql.length cq, .slice (some ⟨1, 0, none⟩) al.length ca, .slice (some ⟨2, 0, none⟩) nl.length cn, .slice (some ⟨3, 0, none⟩) rl.length cr] [] _ _ (.cons _ _ _ _ (.int _ _) (.cons _ _ _ _ (.int _ _) (.cons _ _ _ _ (.sl _ _ _ _ _ rfl) (.cons _ _ _ _ (.sl _ _ _ _ _ rfl) (.cons _ _ _ _ (.sl _ _ _ _ _ rfl) (.cons _ _ _ _ (.sl _ _ _ _ _ rfl) .nil))))))⟩, trivial⟩ .nil) hK)
def ov1 (id fl : Int) (ql : List QuX) (al nl rl : List RcX) (cq ca cn cr : Nat) (eq ea en er : TypeId) (i : Nat) (f : Nat → Option Value) : Fs := ⟨slots 6 [(3, .slice (some ⟨5, 0, none⟩) 3 3), (4, .int .i64 0), (5, .int .i64 (i : Nat))] f, heap 5 [(0, .cells ((List.replicate ql.length qu9).flatMap layQ.g) eq), (1, .cells ((overL rc9 al i).flatMap layR.g) ea), (2, .cells (nl.flatMap layR.g) en), (3, .cells (rl.flatMap layR.g) er), (4, .cells [.int .i64 id, .int .i64 fl, .slice (some ⟨0, 0, none⟩) ql.length cq, .slice (some ⟨1, 0, none⟩) al.length ca, .slice (some ⟨2, 0, none⟩) nl.length cn, .slice (some ⟨3, 0, none⟩) rl.length cr] 25), (5, .cells [.slice (some ⟨1, 0, none⟩) al.length ca, .slice (some ⟨2, 0, none⟩) nl.length cn, .slice (some ⟨3, 0, none⟩) rl.length cr] 23)], 6, [0, 1, 2, 3], []⟩
theorem ov1_in (id fl : Int) (ql : List QuX) (al nl rl : List RcX) (cq ca cn cr : Nat) (eq ea en er : TypeId) (hl : al.length ≤ 1000000) {s : Fs} {K : Ex → Fs → Prop} (h0 : ∃ f, RcM Try.prog 0 4 (1 + (Try.f17.ntmps - 1)) none s (ov1 id fl ql al nl rl cq ca cn cr eq ea en er 0 f))
  (hK : ∀ f, K (.exit 4) (ov1 id fl ql al nl rl cq ca cn cr eq ea en er al.length f)) : LW Try.prog 0 4 (1 + (Try.f17.ntmps - 1)) none (loopAt Try.f17 2) s K := by
 have hsz : (Try.prog.types[48]).size = 5 := by kernel_rfl
 refine zAi (ov1 id fl ql al nl rl cq ca cn cr eq ea en er) (fun i => al.length - i) (fun i => i ≤ al.length) 0 (Nat.zero_le _) h0 ?_
 rintro i f hi
 have hi : i ≤ al.length := hi
 refine zAq tbOv [0, 1, 2, 3, 900003] 4 _ none mixed _ _ _ ?_
 refine ifK (fun h1 => ?_) (fun h1 => ?_)
 ·have h1 : i < al.length := by have h1 : ((i : Nat) : Int) < (al.length : Int) := of_decide_eq_true h1; omega
  refine ifK (fun _ => ?_) (fun h2 => absurd h2 (by simp [inI]; omega))
  refine Exists.intro undef (Exists.intro [((1 : Nat), some (AObj.cells ((overL rc9 al (i + 1)).flatMap layR.g) ea))] (Exists.intro (0 : Nat) (And.intro ?_ ?_)))
  ·refine zFf (b := 1) (off := 0 + i * 5) (sz := 5) (bytes := 56) (z := rc0.v) (v := rc9.v) (C := (overL rc9 al i).flatMap layR.g) rfl ?_ rfl rfl zEc rfl rfl ?_ ?_
   ·show Value.pointer _ = _
    rw [hsz]; rfl
   ·rw [zAb layR.g layR.k layR.len, zBd _ _ _ hi]
    have : i * 5 + 5 ≤ al.length * 5 := by omega
    show 0 + i * 5 + 5 ≤ al.length * 5
    omega
   ·have := zHn layR [] [] (overL rc9 al i) i rc9 (by rw [zBd _ _ _ hi]; exact h1)
    rw [zFs _ _ _ h1] at this
    simp only [List.nil_append, List.append_nil, List.length_nil] at this
    exact this
  exact ⟨i + 1, h1, by show al.length - (i + 1) < al.length - i; omega, rcq [4, 5] ⟨⟨_, rfl, .sl _ _ _ _ _ rfl⟩, ⟨_, rfl, .int _ _⟩, zAa rfl (by rw [wrapN (by omega) (by omega)]; omega), trivial⟩ ⟨bpo (plQ _), bpo (plR _), bpo (plR _), bpo (plR _), ⟨by decide, _, rfl, RO.cells [.int .i64 id, .int .i64 fl, .slice (some ⟨0, 0, none⟩) ql.length cq, .slice (some ⟨1, 0, none⟩) al.length ca, .slice (some ⟨2, 0, none⟩) nl.length cn, .slice (some ⟨3, 0, none⟩) rl.length cr] [] _ _ (.cons _ _ _ _ (.int _ _) (.cons _ _ _ _ (.int _ _) (.cons _ _ _ _ (.sl _ _ _ _ _ rfl) (.cons _ _ _ _ (.sl _ _ _ _ _ rfl) (.cons _ _ _ _ (.sl _ _ _ _ _ rfl) (.cons _ _ _ _ (.sl _ _ _ _ _ rfl) .nil))))))⟩, ⟨by decide, _, rfl, RO.cells [.slice (some ⟨1, 0, none⟩) al.length ca, .slice (some ⟨2, 0, none⟩) nl.length cn, .slice (some ⟨3, 0, none⟩) rl.length cr] [] _ _ (.cons _ _ _ _ (.sl _ _ _ _ _ rfl) (.cons _ _ _ _ (.sl _ _ _ _ _ rfl) (.cons _ _ _ _ (.sl _ _ _ _ _ rfl) .nil)))⟩, trivial⟩ .nil⟩
 ·have h1 : i = al.length := by have h1 : ¬ ((i : Nat) : Int) < (al.length : Int) := of_decide_eq_false h1; omega
  subst h1
  exact And.intro rfl (zAn (rcq [4, 5] (d := 6) (d2 := 5) (lv := [(3, .slice (some ⟨5, 0, none⟩) 3 3), (4, .int .i64 0), (5, .int .i64 ((al.length : Nat) : Int))]) (bs := [(0, .cells ((List.replicate ql.length qu9).flatMap layQ.g) eq), (1, .cells ((overL rc9 al al.length).flatMap layR.g) ea), (2, .cells (nl.flatMap layR.g) en), (3, .cells (rl.flatMap layR.g) er), (4, .cells [.int .i64 id, .int .i64 fl, .slice (some ⟨0, 0, none⟩) ql.length cq, .slice (some ⟨1, 0, none⟩) al.length ca, .slice (some ⟨2, 0, none⟩) nl.length cn, .slice (some ⟨3, 0, none⟩) rl.length cr] 25), (5, .cells [.slice (some ⟨1, 0, none⟩) al.length ca, .slice (some ⟨2, 0, none⟩) nl.length cn, .slice (some ⟨3, 0, none⟩) rl.length cr] 23)]) (W := [0, 1, 2, 3]) (m := 6) (df := []) ⟨⟨_, rfl, .sl _ _ _ _ _ rfl⟩, ⟨_, rfl, .int _ _⟩, ⟨_, rfl, .int _ _⟩, trivial⟩ ⟨bpo (plQ _), bpo (plR _), bpo (plR _), bpo (plR _), ⟨by decide, _, rfl, RO.cells [.int .i64 id, .int .i64 fl, .slice (some ⟨0, 0, none⟩) ql.length cq, .slice (some ⟨1, 0, none⟩) al.length ca, .slice (some ⟨2, 0, none⟩) nl.length cn, .slice (some ⟨3, 0, none⟩) rl.length cr] [] _ _ (.cons _ _ _ _ (.int _ _) (.cons _ _ _ _ (.int _ _) (.cons _ _ _ _ (.sl _ _ _ _ _ rfl) (.cons _ _ _ _ (.sl _ _ _ _ _ rfl) (.cons _ _ _ _ (.sl _ _ _ _ _ rfl) (.cons _ _ _ _ (.sl _ _ _ _ _ rfl) .nil))))))⟩, ⟨by decide, _, rfl, RO.cells [.slice (some ⟨1, 0, none⟩) al.length ca, .slice (some ⟨2, 0, none⟩) nl.length cn, .slice (some ⟨3, 0, none⟩) rl.length cr] [] _ _ (.cons _ _ _ _ (.sl _ _ _ _ _ rfl) (.cons _ _ _ _ (.sl _ _ _ _ _ rfl) (.cons _ _ _ _ (.sl _ _ _ _ _ rfl) .nil)))⟩, trivial⟩ .nil) hK)
def ov2 (id fl : Int) (ql : List QuX) (al nl rl : List RcX) (cq ca cn cr : Nat) (eq ea en er : TypeId) (i : Nat) (f : Nat → Option Value) : Fs := ⟨slots 6 [(3, .slice (some ⟨5, 0, none⟩) 3 3), (4, .int .i64 1), (5, .int .i64 (i : Nat))] f, heap 5 [(0, .cells ((List.replicate ql.length qu9).flatMap layQ.g) eq), (1, .cells ((List.replicate al.length rc9).flatMap layR.g) ea), (2, .cells ((overL rc9 nl i).flatMap layR.g) en), (3, .cells (rl.flatMap layR.g) er), (4, .cells [.int .i64 id, .int .i64 fl, .slice (some ⟨0, 0, none⟩) ql.length cq, .slice (some ⟨1, 0, none⟩) al.length ca, .slice (some ⟨2, 0, none⟩) nl.length cn, .slice (some ⟨3, 0, none⟩) rl.length cr] 25), (5, .cells [.slice (some ⟨1, 0, none⟩) al.length ca, .slice (some ⟨2, 0, none⟩) nl.length cn, .slice (some ⟨3, 0, none⟩) rl.length cr] 23)], 6, [0, 1, 2, 3], []⟩
theorem ov2_in (id fl : Int) (ql : List QuX) (al nl rl : List RcX) (cq ca cn cr : Nat) (eq ea en er : TypeId) (hl : nl.length ≤ 1000000) {s : Fs} {K : Ex → Fs → Prop} (h0 : ∃ f, RcM Try.prog 0 4 (1 + (Try.f17.ntmps - 1)) none s (ov2 id fl ql al nl rl cq ca cn cr eq ea en er 0 f))
  (hK : ∀ f, K (.exit 4) (ov2 id fl ql al nl rl cq ca cn cr eq ea en er nl.length f)) : LW Try.prog 0 4 (1 + (Try.f17.ntmps - 1)) none (loopAt Try.f17 2) s K := by
 have hsz : (Try.prog.types[48]).size = 5 := by kernel_rfl
 refine zAi (ov2 id fl ql al nl rl cq ca cn cr eq ea en er) (fun i => nl.length - i) (fun i => i ≤ nl.length) 0 (Nat.zero_le _) h0 ?_
 rintro i f hi
 have hi : i ≤ nl.length := hi
 refine zAq tbOv [0, 1, 2, 3, 900003] 4 _ none mixed _ _ _ ?_
 refine ifK (fun h1 => ?_) (fun h1 => ?_)
 ·have h1 : i < nl.length := by have h1 : ((i : Nat) : Int) < (nl.length : Int) := of_decide_eq_true h1; omega
  refine ifK (fun _ => ?_) (fun h2 => absurd h2 (by simp [inI]; omega))
  refine Exists.intro undef (Exists.intro [((2 : Nat), some (AObj.cells ((overL rc9 nl (i + 1)).flatMap layR.g) en))] (Exists.intro (0 : Nat) (And.intro ?_ ?_)))
  ·refine zFf (b := 2) (off := 0 + i * 5) (sz := 5) (bytes := 56) (z := rc0.v) (v := rc9.v) (C := (overL rc9 nl i).flatMap layR.g) rfl ?_ rfl rfl zEc rfl rfl ?_ ?_
   ·show Value.pointer _ = _
    rw [hsz]; rfl
   ·rw [zAb layR.g layR.k layR.len, zBd _ _ _ hi]
    have : i * 5 + 5 ≤ nl.length * 5 := by omega
    show 0 + i * 5 + 5 ≤ nl.length * 5
    omega
   ·have := zHn layR [] [] (overL rc9 nl i) i rc9 (by rw [zBd _ _ _ hi]; exact h1)
    rw [zFs _ _ _ h1] at this
    simp only [List.nil_append, List.append_nil, List.length_nil] at this
    exact this
  exact ⟨i + 1, h1, by show nl.length - (i + 1) < nl.length - i; omega, rcq [4, 5] ⟨⟨_, rfl, .sl _ _ _ _ _ rfl⟩, ⟨_, rfl, .int _ _⟩, zAa rfl (by rw [wrapN (by omega) (by omega)]; omega), trivial⟩ ⟨bpo (plQ _), bpo (plR _), bpo (plR _), bpo (plR _), ⟨by decide, _, rfl, RO.cells [.int .i64 id, .int .i64 fl, .slice (some ⟨0, 0, none⟩) ql.length cq, .slice (some ⟨1, 0, none⟩) al.length ca, .slice (some ⟨2, 0, none⟩) nl.length cn, .slice (some ⟨3, 0, none⟩) rl.length cr] [] _ _ (.cons _ _ _ _ (.int _ _) (.cons _ _ _ _ (.int _ _) (.cons _ _ _ _ (.sl _ _ _ _ _ rfl) (.cons _ _ _ _ (.sl _ _ _ _ _ rfl) (.cons _ _ _ _ (.sl _ _ _ _ _ rfl) (.cons _ _ _ _ (.sl _ _ _ _ _ rfl) .nil))))))⟩, ⟨by decide, _, rfl, RO.cells [.slice (some ⟨1, 0, none⟩) al.length ca, .slice (some ⟨2, 0, none⟩) nl.length cn, .slice (some ⟨3, 0, none⟩) rl.length cr] [] _ _ (.cons _ _ _ _ (.sl _ _ _ _ _ rfl) (.cons _ _ _ _ (.sl _ _ _ _ _ rfl) (.cons _ _ _ _ (.sl _ _ _ _ _ rfl) .nil)))⟩, trivial⟩ .nil⟩
 ·have h1 : i = nl.length := by have h1 : ¬ ((i : Nat) : Int) < (nl.length : Int) := of_decide_eq_false h1; omega
  subst h1
  exact And.intro rfl (zAn (rcq [4, 5] (d := 6) (d2 := 5) (lv := [(3, .slice (some ⟨5, 0, none⟩) 3 3), (4, .int .i64 1), (5, .int .i64 ((nl.length : Nat) : Int))]) (bs := [(0, .cells ((List.replicate ql.length qu9).flatMap layQ.g) eq), (1, .cells ((List.replicate al.length rc9).flatMap layR.g) ea), (2, .cells ((overL rc9 nl nl.length).flatMap layR.g) en), (3, .cells (rl.flatMap layR.g) er), (4, .cells [.int .i64 id, .int .i64 fl, .slice (some ⟨0, 0, none⟩) ql.length cq, .slice (some ⟨1, 0, none⟩) al.length ca, .slice (some ⟨2, 0, none⟩) nl.length cn, .slice (some ⟨3, 0, none⟩) rl.length cr] 25), (5, .cells [.slice (some ⟨1, 0, none⟩) al.length ca, .slice (some ⟨2, 0, none⟩) nl.length cn, .slice (some ⟨3, 0, none⟩) rl.length cr] 23)]) (W := [0, 1, 2, 3]) (m := 6) (df := []) ⟨⟨_, rfl, .sl _ _ _ _ _ rfl⟩, ⟨_, rfl, .int _ _⟩, ⟨_, rfl, .int _ _⟩, trivial⟩ ⟨bpo (plQ _), bpo (plR _), bpo (plR _), bpo (plR _), ⟨by decide, _, rfl, RO.cells [.int .i64 id, .int .i64 fl, .slice (some ⟨0, 0, none⟩) ql.length cq, .slice (some ⟨1, 0, none⟩) al.length ca, .slice (some ⟨2, 0, none⟩) nl.length cn, .slice (some ⟨3, 0, none⟩) rl.length cr] [] _ _ (.cons _ _ _ _ (.int _ _) (.cons _ _ _ _ (.int _ _) (.cons _ _ _ _ (.sl _ _ _ _ _ rfl) (.cons _ _ _ _ (.sl _ _ _ _ _ rfl) (.cons _ _ _ _ (.sl _ _ _ _ _ rfl) (.cons _ _ _ _ (.sl _ _ _ _ _ rfl) .nil))))))⟩, ⟨by decide, _, rfl, RO.cells [.slice (some ⟨1, 0, none⟩) al.length ca, .slice (some ⟨2, 0, none⟩) nl.length cn, .slice (some ⟨3, 0, none⟩) rl.length cr] [] _ _ (.cons _ _ _ _ (.sl _ _ _ _ _ rfl) (.cons _ _ _ _ (.sl _ _ _ _ _ rfl) (.cons _ _ _ _ (.sl _ _ _ _ _ rfl) .nil)))⟩, trivial⟩ .nil) hK)
def ov3 (id fl : Int) (ql : List QuX) (al nl rl : List RcX) (cq ca cn cr : Nat) (eq ea en er : TypeId) (i : Nat) (f : Nat → Option Value) : Fs := ⟨slots 6 [(3, .slice (some ⟨5, 0, none⟩) 3 3), (4, .int .i64 2), (5, .int .i64 (i : Nat))] f, heap 5 [(0, .cells ((List.replicate ql.length qu9).flatMap layQ.g) eq), (1, .cells ((List.replicate al.length rc9).flatMap layR.g) ea), (2, .cells ((List.replicate nl.length rc9).flatMap layR.g) en), (3, .cells ((overL rc9 rl i).flatMap layR.g) er), (4, .cells [.int .i64 id, .int .i64 fl, .slice (some ⟨0, 0, none⟩) ql.length cq, .slice (some ⟨1, 0, none⟩) al.length ca, .slice (some ⟨2, 0, none⟩) nl.length cn, .slice (some ⟨3, 0, none⟩) rl.length cr] 25), (5, .cells [.slice (some ⟨1, 0, none⟩) al.length ca, .slice (some ⟨2, 0, none⟩) nl.length cn, .slice (some ⟨3, 0, none⟩) rl.length cr] 23)], 6, [0, 1, 2, 3], []⟩
theorem ov3_in (id fl : Int) (ql : List QuX) (al nl rl : List RcX) (cq ca cn cr : Nat) (eq ea en er : TypeId) (hl : rl.length ≤ 1000000) {s : Fs} {K : Ex → Fs → Prop} (h0 : ∃ f, RcM Try.prog 0 4 (1 + (Try.f17.ntmps - 1)) none s (ov3 id fl ql al nl rl cq ca cn cr eq ea en er 0 f))
  (hK : ∀ f, K (.exit 4) (ov3 id fl ql al nl rl cq ca cn cr eq ea en er rl.length f)) : LW Try.prog 0 4 (1 + (Try.f17.ntmps - 1)) none (loopAt Try.f17 2) s K := by
 have hsz : (Try.prog.types[48]).size = 5 := by kernel_rfl
 refine zAi (ov3 id fl ql al nl rl cq ca cn cr eq ea en er) (fun i => rl.length - i) (fun i => i ≤ rl.length) 0 (Nat.zero_le _) h0 ?_
 rintro i f hi
 have hi : i ≤ rl.length := hi
 refine zAq tbOv [0, 1, 2, 3, 900003] 4 _ none mixed _ _ _ ?_
 refine ifK (fun h1 => ?_) (fun h1 => ?_)
 ·have h1 : i < rl.length := by have h1 : ((i : Nat) : Int) < (rl.length : Int) := of_decide_eq_true h1; omega
  refine ifK (fun _ => ?_) (fun h2 => absurd h2 (by simp [inI]; omega))
  refine Exists.intro undef (Exists.intro [((3 : Nat), some (AObj.cells ((overL rc9 rl (i + 1)).flatMap layR.g) er))] (Exists.intro (0 : Nat) (And.intro ?_ ?_)))
  ·refine zFf (b := 3) (off := 0 + i * 5) (sz := 5) (bytes := 56) (z := rc0.v) (v := rc9.v) (C := (overL rc9 rl i).flatMap layR.g) rfl ?_ rfl rfl zEc rfl rfl ?_ ?_
   ·show Value.pointer _ = _
    rw [hsz]; rfl
   ·rw [zAb layR.g layR.k layR.len, zBd _ _ _ hi]
    have : i * 5 + 5 ≤ rl.length * 5 := by omega
    show 0 + i * 5 + 5 ≤ rl.length * 5
    omega
   ·have := zHn layR [] [] (overL rc9 rl i) i rc9 (by rw [zBd _ _ _ hi]; exact h1)
    rw [zFs _ _ _ h1] at this
    simp only [List.nil_append, List.append_nil, List.length_nil] at this
    exact this
  exact ⟨i + 1, h1, by show rl.length - (i + 1) < rl.length - i; omega, rcq [4, 5] ⟨⟨_, rfl, .sl _ _ _ _ _ rfl⟩, ⟨_, rfl, .int _ _⟩, zAa rfl (by rw [wrapN (by omega) (by omega)]; omega), trivial⟩ ⟨bpo (plQ _), bpo (plR _), bpo (plR _), bpo (plR _), ⟨by decide, _, rfl, RO.cells [.int .i64 id, .int .i64 fl, .slice (some ⟨0, 0, none⟩) ql.length cq, .slice (some ⟨1, 0, none⟩) al.length ca, .slice (some ⟨2, 0, none⟩) nl.length cn, .slice (some ⟨3, 0, none⟩) rl.length cr] [] _ _ (.cons _ _ _ _ (.int _ _) (.cons _ _ _ _ (.int _ _) (.cons _ _ _ _ (.sl _ _ _ _ _ rfl) (.cons _ _ _ _ (.sl _ _ _ _ _ rfl) (.cons _ _ _ _ (.sl _ _ _ _ _ rfl) (.cons _ _ _ _ (.sl _ _ _ _ _ rfl) .nil))))))⟩, ⟨by decide, _, rfl, RO.cells [.slice (some ⟨1, 0, none⟩) al.length ca, .slice (some ⟨2, 0, none⟩) nl.length cn, .slice (some ⟨3, 0, none⟩) rl.length cr] [] _ _ (.cons _ _ _ _ (.sl _ _ _ _ _ rfl) (.cons _ _ _ _ (.sl _ _ _ _ _ rfl) (.cons _ _ _ _ (.sl _ _ _ _ _ rfl) .nil)))⟩, trivial⟩ .nil⟩
 ·have h1 : i = rl.length := by have h1 : ¬ ((i : Nat) : Int) < (rl.length : Int) := of_decide_eq_false h1; omega
  subst h1
  exact And.intro rfl (zAn (rcq [4, 5] (d := 6) (d2 := 5) (lv := [(3, .slice (some ⟨5, 0, none⟩) 3 3), (4, .int .i64 2), (5, .int .i64 ((rl.length : Nat) : Int))]) (bs := [(0, .cells ((List.replicate ql.length qu9).flatMap layQ.g) eq), (1, .cells ((List.replicate al.length rc9).flatMap layR.g) ea), (2, .cells ((List.replicate nl.length rc9).flatMap layR.g) en), (3, .cells ((overL rc9 rl rl.length).flatMap layR.g) er), (4, .cells [.int .i64 id, .int .i64 fl, .slice (some ⟨0, 0, none⟩) ql.length cq, .slice (some ⟨1, 0, none⟩) al.length ca, .slice (some ⟨2, 0, none⟩) nl.length cn, .slice (some ⟨3, 0, none⟩) rl.length cr] 25), (5, .cells [.slice (some ⟨1, 0, none⟩) al.length ca, .slice (some ⟨2, 0, none⟩) nl.length cn, .slice (some ⟨3, 0, none⟩) rl.length cr] 23)]) (W := [0, 1, 2, 3]) (m := 6) (df := []) ⟨⟨_, rfl, .sl _ _ _ _ _ rfl⟩, ⟨_, rfl, .int _ _⟩, ⟨_, rfl, .int _ _⟩, trivial⟩ ⟨bpo (plQ _), bpo (plR _), bpo (plR _), bpo (plR _), ⟨by decide, _, rfl, RO.cells [.int .i64 id, .int .i64 fl, .slice (some ⟨0, 0, none⟩) ql.length cq, .slice (some ⟨1, 0, none⟩) al.length ca, .slice (some ⟨2, 0, none⟩) nl.length cn, .slice (some ⟨3, 0, none⟩) rl.length cr] [] _ _ (.cons _ _ _ _ (.int _ _) (.cons _ _ _ _ (.int _ _) (.cons _ _ _ _ (.sl _ _ _ _ _ rfl) (.cons _ _ _ _ (.sl _ _ _ _ _ rfl) (.cons _ _ _ _ (.sl _ _ _ _ _ rfl) (.cons _ _ _ _ (.sl _ _ _ _ _ rfl) .nil))))))⟩, ⟨by decide, _, rfl, RO.cells [.slice (some ⟨1, 0, none⟩) al.length ca, .slice (some ⟨2, 0, none⟩) nl.length cn, .slice (some ⟨3, 0, none⟩) rl.length cr] [] _ _ (.cons _ _ _ _ (.sl _ _ _ _ _ rfl) (.cons _ _ _ _ (.sl _ _ _ _ _ rfl) (.cons _ _ _ _ (.sl _ _ _ _ _ rfl) .nil)))⟩, trivial⟩ .nil) hK)
theorem overM4_fn (id fl : Int) (ql : List QuX) (al nl rl : List RcX) (cq ca cn cr : Nat) (eq ea en er : TypeId) (hq : ql.length ≤ 1000000) (ha : al.length ≤ 1000000) (hn : nl.length ≤ 1000000) (hr : rl.length ≤ 1000000) :
  ∃ r, FnS Try.prog 0 17 [.agg #[.int .i64 id, .int .i64 fl, .slice (some ⟨0, 0, none⟩) ql.length cq, .slice (some ⟨1, 0, none⟩) al.length ca, .slice (some ⟨2, 0, none⟩) nl.length cn, .slice (some ⟨3, 0, none⟩) rl.length cr]] (heap 3 [(0, .cells (ql.flatMap layQ.g) eq), (1, .cells (al.flatMap layR.g) ea), (2, .cells (nl.flatMap layR.g) en), (3, .cells (rl.flatMap layR.g) er)]) 4 r ∧
   ∃ H k wr, r = .ret (.tuple #[]) H k wr ∧ (0 ∈ wr ∧ 1 ∈ wr ∧ 2 ∈ wr ∧ 3 ∈ wr) ∧ H.get 0 = some (.cells ((List.replicate ql.length qu9).flatMap layQ.g) eq) ∧ H.get 1 = some (.cells ((List.replicate al.length rc9).flatMap layR.g) ea) ∧ H.get 2 = some (.cells ((List.replicate nl.length rc9).flatMap layR.g) en) ∧ H.get 3 = some (.cells ((List.replicate rl.length rc9).flatMap layR.g) er) := by
 refine zCe mixed tbOv [0, 1, 2, 3, 900003] Try.func17 (c := bodyOf Try.f17) (by kernel_rfl) ?_
 refine ov0_in id fl ql al nl rl cq ca cn cr eq ea en er hq ?_ (fun f => ?_)
 ·exact rcq [4] ⟨⟨_, rfl, .ptr _ _ _ rfl⟩, ⟨_, rfl, .int _ _⟩, trivial⟩ ⟨bpo (plQ _), bpo (plR _), bpo (plR _), bpo (plR _), ⟨by decide, _, rfl, RO.cells [.int .i64 id, .int .i64 fl, .slice (some ⟨0, 0, none⟩) ql.length cq, .slice (some ⟨1, 0, none⟩) al.length ca, .slice (some ⟨2, 0, none⟩) nl.length cn, .slice (some ⟨3, 0, none⟩) rl.length cr] [] _ _ (.cons _ _ _ _ (.int _ _) (.cons _ _ _ _ (.int _ _) (.cons _ _ _ _ (.sl _ _ _ _ _ rfl) (.cons _ _ _ _ (.sl _ _ _ _ _ rfl) (.cons _ _ _ _ (.sl _ _ _ _ _ rfl) (.cons _ _ _ _ (.sl _ _ _ _ _ rfl) .nil))))))⟩, trivial⟩ .nil
 rw [show ov0 id fl ql al nl rl cq ca cn cr eq ea en er ql.length f = ⟨slots 6 [(1, .pointer (some ⟨4, 0, none⟩)), (2, .int .i64 ((ql.length : Nat) : Int))] f, heap 4 [(0, .cells ((List.replicate ql.length qu9).flatMap layQ.g) eq), (1, .cells (al.flatMap layR.g) ea), (2, .cells (nl.flatMap layR.g) en), (3, .cells (rl.flatMap layR.g) er), (4, .cells [.int .i64 id, .int .i64 fl, .slice (some ⟨0, 0, none⟩) ql.length cq, .slice (some ⟨1, 0, none⟩) al.length ca, .slice (some ⟨2, 0, none⟩) nl.length cn, .slice (some ⟨3, 0, none⟩) rl.length cr] 25)], 5, [0, 1, 2, 3], []⟩ by unfold ov0; rw [zFr]]
 refine LW.round (zAq tbOv [0, 1, 2, 3, 900003] 4 _ none mixed _ _ _ ?_)
 refine ov1_in id fl ql al nl rl cq ca cn cr eq ea en er ha ?_ (fun f => ?_)
 ·exact rcq [4, 5] ⟨⟨_, rfl, .sl _ _ _ _ _ rfl⟩, ⟨_, rfl, .int _ _⟩, ⟨_, rfl, .int _ _⟩, trivial⟩ ⟨bpo (plQ _), bpo (plR _), bpo (plR _), bpo (plR _), ⟨by decide, _, rfl, RO.cells [.int .i64 id, .int .i64 fl, .slice (some ⟨0, 0, none⟩) ql.length cq, .slice (some ⟨1, 0, none⟩) al.length ca, .slice (some ⟨2, 0, none⟩) nl.length cn, .slice (some ⟨3, 0, none⟩) rl.length cr] [] _ _ (.cons _ _ _ _ (.int _ _) (.cons _ _ _ _ (.int _ _) (.cons _ _ _ _ (.sl _ _ _ _ _ rfl) (.cons _ _ _ _ (.sl _ _ _ _ _ rfl) (.cons _ _ _ _ (.sl _ _ _ _ _ rfl) (.cons _ _ _ _ (.sl _ _ _ _ _ rfl) .nil))))))⟩, ⟨by decide, _, rfl, RO.cells [.slice (some ⟨1, 0, none⟩) al.length ca, .slice (some ⟨2, 0, none⟩) nl.length cn, .slice (some ⟨3, 0, none⟩) rl.length cr] [] _ _ (.cons _ _ _ _ (.sl _ _ _ _ _ rfl) (.cons _ _ _ _ (.sl _ _ _ _ _ rfl) (.cons _ _ _ _ (.sl _ _ _ _ _ rfl) .nil)))⟩, trivial⟩ .nil
 rw [show ov1 id fl ql al nl rl cq ca cn cr eq ea en er al.length f = ⟨slots 6 [(3, .slice (some ⟨5, 0, none⟩) 3 3), (4, .int .i64 0), (5, .int .i64 ((al.length : Nat) : Int))] f, heap 5 [(0, .cells ((List.replicate ql.length qu9).flatMap layQ.g) eq), (1, .cells ((List.replicate al.length rc9).flatMap layR.g) ea), (2, .cells (nl.flatMap layR.g) en), (3, .cells (rl.flatMap layR.g) er), (4, .cells [.int .i64 id, .int .i64 fl, .slice (some ⟨0, 0, none⟩) ql.length cq, .slice (some ⟨1, 0, none⟩) al.length ca, .slice (some ⟨2, 0, none⟩) nl.length cn, .slice (some ⟨3, 0, none⟩) rl.length cr] 25), (5, .cells [.slice (some ⟨1, 0, none⟩) al.length ca, .slice (some ⟨2, 0, none⟩) nl.length cn, .slice (some ⟨3, 0, none⟩) rl.length cr] 23)], 6, [0, 1, 2, 3], []⟩ by unfold ov1; rw [zFr]]
 refine LW.round (zAq tbOv [0, 1, 2, 3, 900003] 4 _ none mixed _ _ _ ?_)
 refine ov2_in id fl ql al nl rl cq ca cn cr eq ea en er hn ?_ (fun f => ?_)
 ·exact rcq [4, 5] ⟨⟨_, rfl, .sl _ _ _ _ _ rfl⟩, ⟨_, rfl, .int _ _⟩, ⟨_, rfl, .int _ _⟩, trivial⟩ ⟨bpo (plQ _), bpo (plR _), bpo (plR _), bpo (plR _), ⟨by decide, _, rfl, RO.cells [.int .i64 id, .int .i64 fl, .slice (some ⟨0, 0, none⟩) ql.length cq, .slice (some ⟨1, 0, none⟩) al.length ca, .slice (some ⟨2, 0, none⟩) nl.length cn, .slice (some ⟨3, 0, none⟩) rl.length cr] [] _ _ (.cons _ _ _ _ (.int _ _) (.cons _ _ _ _ (.int _ _) (.cons _ _ _ _ (.sl _ _ _ _ _ rfl) (.cons _ _ _ _ (.sl _ _ _ _ _ rfl) (.cons _ _ _ _ (.sl _ _ _ _ _ rfl) (.cons _ _ _ _ (.sl _ _ _ _ _ rfl) .nil))))))⟩, ⟨by decide, _, rfl, RO.cells [.slice (some ⟨1, 0, none⟩) al.length ca, .slice (some ⟨2, 0, none⟩) nl.length cn, .slice (some ⟨3, 0, none⟩) rl.length cr] [] _ _ (.cons _ _ _ _ (.sl _ _ _ _ _ rfl) (.cons _ _ _ _ (.sl _ _ _ _ _ rfl) (.cons _ _ _ _ (.sl _ _ _ _ _ rfl) .nil)))⟩, trivial⟩ .nil
 rw [show ov2 id fl ql al nl rl cq ca cn cr eq ea en er nl.length f = ⟨slots 6 [(3, .slice (some ⟨5, 0, none⟩) 3 3), (4, .int .i64 1), (5, .int .i64 ((nl.length : Nat) : Int))] f, heap 5 [(0, .cells ((List.replicate ql.length qu9).flatMap layQ.g) eq), (1, .cells ((List.replicate al.length rc9).flatMap layR.g) ea), (2, .cells ((List.replicate nl.length rc9).flatMap layR.g) en), (3, .cells (rl.flatMap layR.g) er), (4, .cells [.int .i64 id, .int .i64 fl, .slice (some ⟨0, 0, none⟩) ql.length cq, .slice (some ⟨1, 0, none⟩) al.length ca, .slice (some ⟨2, 0, none⟩) nl.length cn, .slice (some ⟨3, 0, none⟩) rl.length cr] 25), (5, .cells [.slice (some ⟨1, 0, none⟩) al.length ca, .slice (some ⟨2, 0, none⟩) nl.length cn, .slice (some ⟨3, 0, none⟩) rl.length cr] 23)], 6, [0, 1, 2, 3], []⟩ by unfold ov2; rw [zFr]]
 refine LW.round (zAq tbOv [0, 1, 2, 3, 900003] 4 _ none mixed _ _ _ ?_)
 refine ov3_in id fl ql al nl rl cq ca cn cr eq ea en er hr ?_ (fun f => ?_)
 ·exact rcq [4, 5] ⟨⟨_, rfl, .sl _ _ _ _ _ rfl⟩, ⟨_, rfl, .int _ _⟩, ⟨_, rfl, .int _ _⟩, trivial⟩ ⟨bpo (plQ _), bpo (plR _), bpo (plR _), bpo (plR _), ⟨by decide, _, rfl, RO.cells [.int .i64 id, .int .i64 fl, .slice (some ⟨0, 0, none⟩) ql.length cq, .slice (some ⟨1, 0, none⟩) al.length ca, .slice (some ⟨2, 0, none⟩) nl.length cn, .slice (some ⟨3, 0, none⟩) rl.length cr] [] _ _ (.cons _ _ _ _ (.int _ _) (.cons _ _ _ _ (.int _ _) (.cons _ _ _ _ (.sl _ _ _ _ _ rfl) (.cons _ _ _ _ (.sl _ _ _ _ _ rfl) (.cons _ _ _ _ (.sl _ _ _ _ _ rfl) (.cons _ _ _ _ (.sl _ _ _ _ _ rfl) .nil))))))⟩, ⟨by decide, _, rfl, RO.cells [.slice (some ⟨1, 0, none⟩) al.length ca, .slice (some ⟨2, 0, none⟩) nl.length cn, .slice (some ⟨3, 0, none⟩) rl.length cr] [] _ _ (.cons _ _ _ _ (.sl _ _ _ _ _ rfl) (.cons _ _ _ _ (.sl _ _ _ _ _ rfl) (.cons _ _ _ _ (.sl _ _ _ _ _ rfl) .nil)))⟩, trivial⟩ .nil
 rw [show ov3 id fl ql al nl rl cq ca cn cr eq ea en er rl.length f = ⟨slots 6 [(3, .slice (some ⟨5, 0, none⟩) 3 3), (4, .int .i64 2), (5, .int .i64 ((rl.length : Nat) : Int))] f, heap 5 [(0, .cells ((List.replicate ql.length qu9).flatMap layQ.g) eq), (1, .cells ((List.replicate al.length rc9).flatMap layR.g) ea), (2, .cells ((List.replicate nl.length rc9).flatMap layR.g) en), (3, .cells ((List.replicate rl.length rc9).flatMap layR.g) er), (4, .cells [.int .i64 id, .int .i64 fl, .slice (some ⟨0, 0, none⟩) ql.length cq, .slice (some ⟨1, 0, none⟩) al.length ca, .slice (some ⟨2, 0, none⟩) nl.length cn, .slice (some ⟨3, 0, none⟩) rl.length cr] 25), (5, .cells [.slice (some ⟨1, 0, none⟩) al.length ca, .slice (some ⟨2, 0, none⟩) nl.length cn, .slice (some ⟨3, 0, none⟩) rl.length cr] 23)], 6, [0, 1, 2, 3], []⟩ by unfold ov3; rw [zFr]]
 refine LW.round (zAq tbOv [0, 1, 2, 3, 900003] 4 _ none mixed _ _ _ ?_)
 exact ⟨_, _, _, rfl, ⟨List.mem_of_elem_eq_true (by kernel_rfl), List.mem_of_elem_eq_true (by kernel_rfl), List.mem_of_elem_eq_true (by kernel_rfl), List.mem_of_elem_eq_true (by kernel_rfl)⟩, rfl, rfl, rfl, rfl⟩
end Go.Proofs.Ytknpgjeclmadkaa
namespace Go.Proofs.Ytknpgjeclmadkaa
open Go Go.RowKit
def ovC (m : MsT) (b1 b2 b3 b4 : Nat) : List (Nat × Option AObj) := [(b1, some (.cells ((List.replicate m.q.length qu9).flatMap layQ.g) (ownT 25 57 m.q))), (b2, some (.cells ((List.replicate m.an.length rc9).flatMap layR.g) (ownT 23 48 m.an))), (b3, some (.cells ((List.replicate m.ns.length rc9).flatMap layR.g) (ownT 23 48 m.ns))), (b4, some (.cells ((List.replicate m.ar.length rc9).flatMap layR.g) (ownT 23 48 m.ar)))]
structure OvX where
 m : MsT
 b1 : Nat
 b2 : Nat
 b3 : Nat
 b4 : Nat
def OvX.at (x : OvX) (H : Tr AObj) : Prop := H.get x.b1 = some (ownB layQ 25 x.m.q) ∧ H.get x.b2 = some (ownB layR 23 x.m.an) ∧ H.get x.b3 = some (ownB layR 23 x.m.ns) ∧ H.get x.b4 = some (ownB layR 23 x.m.ar)
theorem zHx {α : Type} {L : Lay α} {e0 : TypeId} {a b : List α} (_ : a.length = b.length) (h : ownB L e0 a = ownB L e0 b) : a = b := by
 simp only [ownB, AObj.cells.injEq] at h
 exact L.flat_inj _ _ h.1
theorem OvX.uniq {x y : OvX} {H : Tr AObj} (e : nmV x.m x.b1 x.b2 x.b3 x.b4 = nmV y.m y.b1 y.b2 y.b3 y.b4) (h : x.at H) (k : y.at H) : x = y := by
 obtain ⟨⟨i, f, q, a, n, r⟩, b1, b2, b3, b4⟩ := x
 obtain ⟨⟨i', f', q', a', n', r'⟩, c1, c2, c3, c4⟩ := y
 simp only [nmV, ownV, Value.agg.injEq, Array.mk.injEq, List.cons.injEq, Value.int.injEq, Value.slice.injEq, Option.some.injEq, Addr.mk.injEq, true_and, and_true] at e
 obtain ⟨rfl, rfl, ⟨rfl, e1, _⟩, ⟨rfl, e2, _⟩, ⟨rfl, e3, _⟩, rfl, e4, _⟩ := e
 obtain ⟨h1, h2, h3, h4⟩ := h
 obtain ⟨k1, k2, k3, k4⟩ := k
 have g1 : q = q' := zHx e1 (Option.some.inj (h1.symm.trans k1))
 have g2 : a = a' := zHx e2 (Option.some.inj (h2.symm.trans k2))
 have g3 : n = n' := zHx e3 (Option.some.inj (h3.symm.trans k3))
 have g4 : r = r' := zHx e4 (Option.some.inj (h4.symm.trans k4))
 subst g1; subst g2; subst g3; subst g4; rfl
noncomputable def ct_overN : Ct Try.prog 0 :=
 CtR.ct { f := 17, X := OvX, pre := fun x a H _ => a = [nmV x.m x.b1 x.b2 x.b3 x.b4] ∧ x.at H ∧ [x.b1, x.b2, x.b3, x.b4].Nodup ∧ x.m.fit 1000000, out := fun x H n => .ret (.tuple #[]) (setL H (ovC x.m x.b1 x.b2 x.b3 x.b4)) n [x.b1, x.b2, x.b3, x.b4],
          ok := fun x as0 H n ⟨h1, h2, h3, h4⟩ => by
           subst h1
           obtain ⟨m, b1, b2, b3, b4⟩ := x
           obtain ⟨g1, g2, g3, g4⟩ := h2
           obtain ⟨f1, f2, f3, f4⟩ := h4
           obtain ⟨r, hF, H', k, wr, rfl, ⟨w0, w1, w2, w3⟩, r1, r2, r3, r4⟩ := overM4_fn m.id m.fl m.q m.an m.ns m.ar (capO m.q) (capO m.an) (capO m.ns) (capO m.ar) (ownT 25 57 m.q) (ownT 23 48 m.an) (ownT 23 48 m.ns) (ownT 23 48 m.ar) f1 f2 f3 f4
           refine zNu [b1, b2, b3, b4] [] (ovC m b1 b2 b3 b4) hF h3 (zPl ⟨⟨b1, _, rfl, g1, .same (plQ _)⟩, ⟨b2, _, rfl, g2, .same (plR _)⟩, ⟨b3, _, rfl, g3, .same (plR _)⟩, ⟨b4, _, rfl, g4, .same (plR _)⟩, trivial⟩)
            (.cons _ _ _ _ (.agg _ _ (.cons _ _ _ _ (.int _ _) (.cons _ _ _ _ (.int _ _) (.cons _ _ _ _ (.sl _ _ _ _ _ rfl) (.cons _ _ _ _ (.sl _ _ _ _ _ rfl) (.cons _ _ _ _ (.sl _ _ _ _ _ rfl) (.cons _ _ _ _ (.sl _ _ _ _ _ rfl) .nil))))))) .nil) ?_ ?_ List.nodup_nil (fun x hx => by cases hx) (.tuple _ _ .nil) ?_ ?_ ?_
           ·intro k o hk hl
            have hl : k < 4 := hl
            rcases k with _ | _ | _ | _ | k
            ·have hk : some (AObj.cells _ _) = some o := hk
             cases hk; exact fun h => h
            ·have hk : some (AObj.cells _ _) = some o := hk
             cases hk; exact fun h => h
            ·have hk : some (AObj.cells _ _) = some o := hk
             cases hk; exact fun h => h
            ·have hk : some (AObj.cells _ _) = some o := hk
             cases hk; exact fun h => h
            ·omega
           ·intro j hj
            simp only [List.mem_cons, List.not_mem_nil, or_false] at hj
            rcases hj with rfl | rfl | rfl | rfl
            ·exact ⟨_, g1, fun h => h⟩
            ·exact ⟨_, g2, fun h => h⟩
            ·exact ⟨_, g3, fun h => h⟩
            ·exact ⟨_, g4, fun h => h⟩
           ·intro p hp
            simp only [ovC, List.mem_cons, List.not_mem_nil, or_false] at hp
            rcases hp with rfl | rfl | rfl | rfl <;> exact .inl (by simp)
           ·intro k j hk _
            exact .inl (by have := List.mem_of_getElem? hk; simpa [ovC] using this)
           ·intro j o hj
            simp only [ovC, List.mem_cons, List.not_mem_nil, or_false, Prod.mk.injEq, Option.some.injEq] at hj
            rcases hj with ⟨rfl, rfl⟩ | ⟨rfl, rfl⟩ | ⟨rfl, rfl⟩ | ⟨rfl, rfl⟩
            ·exact ⟨0, _, zJh rfl, r1, .same (plQ _), fun _ => w0⟩
            ·exact ⟨1, _, zJh rfl, r2, .same (plR _), fun _ => w1⟩
            ·exact ⟨2, _, zJh rfl, r3, .same (plR _), fun _ => w2⟩
            ·exact ⟨3, _, zJh rfl, r4, .same (plR _), fun _ => w3⟩,
          uniq := fun x x' a H m ⟨h1, h2, _⟩ ⟨k1, k2, _⟩ => by
           rw [h1] at k1
           simp only [List.cons.injEq, and_true] at k1
           rw [OvX.uniq k1 h2 k2],
          tr := fun x H n K => frcN x.b1 fun b1 => frcN x.b2 fun b2 => frcN x.b3 fun b3 => frcN x.b4 fun b4 => K (.ret (.tuple #[]) (setL H (ovC x.m b1 b2 b3 b4)) n [b1, b2, b3, b4]),
          trOk := fun x H n K h => by simp only [zDi] at h; exact h }
end Go.Proofs.Ytknpgjeclmadkaa
