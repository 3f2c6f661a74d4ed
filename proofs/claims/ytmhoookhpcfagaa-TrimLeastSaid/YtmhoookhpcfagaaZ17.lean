/- DERIVED. Texts put together: N1, D1, D2, D3, D4, D5, D5b, D6, N2, E1, E2, E3, E4P, F1, F2, F3, F4P, F5, N3, R1, R2, R3, R4, Ms1, Rf1, Rf3, Rf4, Ed1, Ed3, Tk1, Et1, Et2, Str, Ms2, Ms3. -/
import Derived.LoopIn
import Derived.Test.YtmhoookhpcfagaaZ14
import Derived.Test.YtmhoookhpcfagaaZ15
import Derived.Test.YtmhoookhpcfagaaZ16
import Derived.Test.YtmhoookhpcfagaaZ2
set_option maxRecDepth 1000000
set_option maxHeartbeats 32000000
namespace Go.Proofs.Ytmhoookhpcfagaa
open Go Go.RowKit
def bs (s : ByteArray) : Bs := s.data.toList
end Go.Proofs.Ytmhoookhpcfagaa
namespace Go.Proofs.Ytmhoookhpcfagaa
open Go Go.RowKit
theorem wrapN {x : Int} (h1 : 0 ≤ x) (h2 : x < 9223372036854775808) : IntKind.i64.wrap x = x := zOk (by omega) h2
def txtF : Nat → Bs → Bool
 | 0, _ => false
 | _ + 1, [] => true
 | n + 1, c :: r => decide (c.toNat ≤ r.length) && txtF n (r.drop c.toNat)
def txt (l : Bs) : Bool := txtF (l.length + 1) l
def texts (l : Bs) : Bool := !l.isEmpty && txt l
end Go.Proofs.Ytmhoookhpcfagaa
namespace Go.Proofs.Ytmhoookhpcfagaa
open Go Go.RowKit
def part (n : Int) (name rest : Bool) : List Value := [.int .i64 n, .bool name, .bool rest]
end Go.Proofs.Ytmhoookhpcfagaa
namespace Go.Proofs.Ytmhoookhpcfagaa
open Go Go.RowKit
def zposF : Nat → Bs → Option Nat
 | 0, _ => none
 | _ + 1, [] => none
 | n + 1, c :: r => if c.toNat = 0 then some 0 else (zposF n (r.drop c.toNat)).map (· + (c.toNat + 1))
def zpos (l : Bs) : Option Nat := zposF (l.length + 1) l
def front (l : Bs) : Option Nat := match zpos l with | some k => if (labels (l.take (k + 1))).2 = 0 then some (k + 1) else none | none => none
end Go.Proofs.Ytmhoookhpcfagaa
namespace Go.Proofs.Ytmhoookhpcfagaa
open Go Go.RowKit
end Go.Proofs.Ytmhoookhpcfagaa
namespace Go.Proofs.Ytmhoookhpcfagaa
open Go Go.RowKit
inductive Pt where
 | nm
 | rest
 | sz (k : Nat)
def Pt.cell : Pt → List Value
 | .nm => part 0 true false
 | .rest => part 0 false true
 | .sz k => part k false false
def Pt.isName : Pt → Bool
 | .nm => true
 | _ => false
def Pt.cut (p : Pt) (l : Bs) : Option Nat :=
 match p with
 | .nm => front l
 | .rest => if texts l then some l.length else none
 | .sz k => if k ≤ l.length then some k else none
def cuts : List Pt → Bs → Option (List (Bs × Bool) × Bs)
 | [], l => some ([], l)
 | p :: ps, l => match p.cut l with
  | none => none
  | some n => (cuts ps (l.drop n)).map fun x => ((l.take n, p.isName) :: x.1, x.2)
end Go.Proofs.Ytmhoookhpcfagaa
namespace Go.Proofs.Ytmhoookhpcfagaa
open Go Go.RowKit
end Go.Proofs.Ytmhoookhpcfagaa
namespace Go.Proofs.Ytmhoookhpcfagaa
open Go Go.RowKit
end Go.Proofs.Ytmhoookhpcfagaa
namespace Go.Proofs.Ytmhoookhpcfagaa
open Go Go.RowKit
end Go.Proofs.Ytmhoookhpcfagaa
namespace Go.Proofs.Ytmhoookhpcfagaa
open Go Go.RowKit
def ptsT (t : Int) : Option (List Pt) :=
 bif t == 1 then some [.sz 4] else bif t == 28 then some [.sz 16] else bif t == 2 then some [.nm] else bif t == 5 then some [.nm] else bif t == 12 then some [.nm] else bif t == 15 then some [.sz 2, .nm]
 else bif t == 6 then some [.nm, .nm, .sz 20] else bif t == 16 then some [.rest] else none
end Go.Proofs.Ytmhoookhpcfagaa
namespace Go.Proofs.Ytmhoookhpcfagaa
open Go Go.RowKit
def outT (t : Int) (l : Bs) : Option (List (Bs × Bool) × Bs) := match ptsT t with | some ps => cuts ps l | none => none
def outP (t : Int) (l : Bs) : List (Bs × Bool) := match outT t l with | some x => x.1 | none => []
def outR (t : Int) (l : Bs) : Bs := match outT t l with | some x => x.2 | none => []
end Go.Proofs.Ytmhoookhpcfagaa
namespace Go.Proofs.Ytmhoookhpcfagaa
open Go Go.RowKit
def lowP (p : Bs × Bool) : Bs := if p.2 then lower p.1 else p.1
def lowerD (t : Int) (l : Bs) : Bs := bif (ptsT t).isSome then (bif (outT t l).isSome && (outR t l).isEmpty then (outP t l).flatMap lowP else l) else l
end Go.Proofs.Ytmhoookhpcfagaa
namespace Go.Proofs.Ytmhoookhpcfagaa
open Go Go.RowKit
end Go.Proofs.Ytmhoookhpcfagaa
namespace Go.Proofs.Ytmhoookhpcfagaa
open Go Go.RowKit
end Go.Proofs.Ytmhoookhpcfagaa
namespace Go.Proofs.Ytmhoookhpcfagaa
open Go Go.RowKit
inductive Pr where
 | nm
 | rest
 | all
 | sz (k : Nat)
def Pr.i : Pr → Int
 | .nm => -1
 | .rest => -2
 | .all => -3
 | .sz k => (k : Int)
def Pr.cut (p : Pr) (l : Bs) : Option Nat :=
 match p with
 | .nm => front l
 | .rest => if texts l then some l.length else none
 | .all => some l.length
 | .sz k => if k ≤ l.length then some k else none
end Go.Proofs.Ytmhoookhpcfagaa
namespace Go.Proofs.Ytmhoookhpcfagaa
open Go Go.RowKit
def Pt.pr : Pt → Pr
 | .nm => .nm
 | .rest => .rest
 | .sz k => .sz k
end Go.Proofs.Ytmhoookhpcfagaa
namespace Go.Proofs.Ytmhoookhpcfagaa
open Go Go.RowKit
end Go.Proofs.Ytmhoookhpcfagaa
namespace Go.Proofs.Ytmhoookhpcfagaa
open Go Go.RowKit
def zs (x : Int × Bs) : Value := str x.2
end Go.Proofs.Ytmhoookhpcfagaa
namespace Go.Proofs.Ytmhoookhpcfagaa
open Go Go.RowKit
end Go.Proofs.Ytmhoookhpcfagaa
namespace Go.Proofs.Ytmhoookhpcfagaa
open Go Go.RowKit
def Ct.sh {X : Type} (f : FuncId) (mt : List Value → Option X) (args : X → List Value) (hm : ∀ l x, mt l = some x → l = args x) (pre : X → Bool) (out : X → Value) (ha : ∀ x, plainL (args x) = true) (hp : ∀ x, plainV 8 (out x) = true) (ok : ∀ x, pre x = true → ∃ H m wr, FnS Try.prog 0 f (args x) .e 0 (.ret (out x) H m wr)) : Ct Try.prog 0 where
 f := f
 res l H n := match mt l with | some x => bif pre x then .ret (out x) H n [] else .bad "not such" [] | none => .bad "arguments" []
 ok l H n := by
  cases h : mt l with
  | none => trivial
  | some x =>
   cases hx : pre x with
   | false => simp only [hx]; trivial
   | true =>
    simp only [hx, cond_true]
    rw [hm l x h]
    obtain ⟨_, _, _, hF⟩ := ok x hx
    exact zEb hF (ha x) (hp x) H n
 ck l H n K := match mt l with | some x => pre x = true ∧ K (.ret (out x) H n []) | none => False
 imp l H n K h := by
  cases hm : mt l with
  | none => rw [hm] at h; exact h.elim
  | some x =>
   rw [hm] at h
   obtain ⟨h1, h2⟩ := h
   simp only [h1, cond_true]; exact h2
def Ct.i2 (f : FuncId) (out : Int → Int → Value) (hp : ∀ x y, plainV 8 (out x y) = true) (ok : ∀ x y, ∃ H m wr, FnS Try.prog 0 f [.int .i64 x, .int .i64 y] .e 0 (.ret (out x y) H m wr)) : Ct Try.prog 0 where
 f := f
 res l H n := match l with | [.int .i64 x, .int .i64 y] => .ret (out x y) H n [] | _ => .bad "arguments" []
 ok l H n := by
  split
  ·rename_i x y
   obtain ⟨_, _, _, h⟩ := ok x y
   exact zEb h rfl (hp x y) H n
  ·trivial
 ck l H n K := match l with | [.int .i64 x, .int .i64 y] => K (.ret (out x y) H n []) | _ => False
 imp l H n K h := by
  split at h
  ·exact h
  ·exact h.elim
def Ct.i1 (f : FuncId) (out : Int → Value) (hp : ∀ x, plainV 8 (out x) = true) (ok : ∀ x, ∃ H m wr, FnS Try.prog 0 f [.int .i64 x] .e 0 (.ret (out x) H m wr)) : Ct Try.prog 0 where
 f := f
 res l H n := match l with | [.int .i64 x] => .ret (out x) H n [] | _ => .bad "arguments" []
 ok l H n := by
  split
  ·rename_i x
   obtain ⟨_, _, _, h⟩ := ok x
   exact zEb h rfl (hp x) H n
  ·trivial
 ck l H n K := match l with | [.int .i64 x] => K (.ret (out x) H n []) | _ => False
 imp l H n K h := by
  split at h
  ·exact h
  ·exact h.elim
structure RcX where
 n : ByteArray
 t : Int
 c : Int
 ttl : Int
 d : ByteArray
def RcX.v (x : RcX) : Value := .agg #[.string x.n, .int .i64 x.t, .int .i64 x.c, .int .i64 x.ttl, .string x.d]
def RcX.ok (x : RcX) : Bool := x.n.data.size.ble 100000000 && x.d.data.size.ble 100000000
end Go.Proofs.Ytmhoookhpcfagaa
namespace Go.Proofs.Ytmhoookhpcfagaa
open Go Go.RowKit
def RcX.low (x : RcX) : RcX := ⟨⟨(lower (bs x.n)).toArray⟩, x.t, x.c, 0, ⟨(lowerD x.t (bs x.d)).toArray⟩⟩
end Go.Proofs.Ytmhoookhpcfagaa
namespace Go.Proofs.Ytmhoookhpcfagaa
open Go Go.RowKit
def RcX.g (x : RcX) : List Value := [.string x.n, .int .i64 x.t, .int .i64 x.c, .int .i64 x.ttl, .string x.d]
def layR : Lay RcX where
 g := RcX.g
 k := 5
 t := 41
 len _ := rfl
 pos := by decide
 plain _ := rfl
 inj x y h := by
  obtain ⟨n, t, c, l, d⟩ := x
  obtain ⟨n', t', c', l', d'⟩ := y
  simp only [RcX.g, List.cons.injEq, Value.string.injEq, Value.int.injEq, true_and, and_true] at h
  obtain ⟨rfl, rfl, rfl, rfl, rfl⟩ := h; rfl
def bigR (n : Int) (x : RcX) : Bool := decide ((x.n.data.size : Int) > n) || decide ((x.d.data.size : Int) > n)
end Go.Proofs.Ytmhoookhpcfagaa
namespace Go.Proofs.Ytmhoookhpcfagaa
open Go Go.RowKit
end Go.Proofs.Ytmhoookhpcfagaa
namespace Go.Proofs.Ytmhoookhpcfagaa
open Go Go.RowKit
deriving instance DecidableEq for RcX
structure QuX where
 n : ByteArray
 t : Int
 c : Int
 deriving DecidableEq
def QuX.v (x : QuX) : Value := .agg #[.string x.n, .int .i64 x.t, .int .i64 x.c]
def QuX.g (x : QuX) : List Value := [.string x.n, .int .i64 x.t, .int .i64 x.c]
def layQ : Lay QuX where
 g := QuX.g
 k := 3
 t := 56
 len _ := rfl
 pos := by decide
 plain _ := rfl
 inj x y h := by
  obtain ⟨n, t, c⟩ := x
  obtain ⟨n', t', c'⟩ := y
  simp only [QuX.g, List.cons.injEq, Value.string.injEq, Value.int.injEq, true_and, and_true] at h
  obtain ⟨rfl, rfl, rfl⟩ := h; rfl
structure MsL where
 id : Int
 fl : Int
 q : RdL QuX
 an : RdL RcX
 ns : RdL RcX
 ar : RdL RcX
def MsL.v (m : MsL) : Value := .agg #[.int .i64 m.id, .int .i64 m.fl, m.q.sl, m.an.sl, m.ns.sl, m.ar.sl]
def MsL.at (m : MsL) (H : Tr AObj) : Prop := m.q.at layQ H ∧ m.an.at layR H ∧ m.ns.at layR H ∧ m.ar.at layR H
def MsL.heap (m : MsL) : Tr AObj := Go.Proofs.Ytmhoookhpcfagaa.heap 3 [(0, .win (m.q.cells layQ) layQ.k), (1, .win (m.an.cells layR) layR.k), (2, .win (m.ns.cells layR) layR.k), (3, .win (m.ar.cells layR) layR.k)]
def MsL.own (m : MsL) : MsL := ⟨m.id, m.fl, { m.q with b := 0 }, { m.an with b := 1 }, { m.ns with b := 2 }, { m.ar with b := 3 }⟩
theorem MsL.uniq {m m' : MsL} {H : Tr AObj} (h : m.v = m'.v) (h1 : m.at H) (h2 : m'.at H) : m = m' := by
 obtain ⟨id, fl, q, an, ns, ar⟩ := m
 obtain ⟨id', fl', q', an', ns', ar'⟩ := m'
 simp only [MsL.v, Value.agg.injEq, Array.mk.injEq, List.cons.injEq, Value.int.injEq, true_and, and_true] at h
 obtain ⟨rfl, rfl, a1, a2, a3, a4⟩ := h
 obtain ⟨b1, b2, b3, b4⟩ := h1
 obtain ⟨c1, c2, c3, c4⟩ := h2
 rw [RdL.uniq a1 b1 c1, RdL.uniq a2 b2 c2, RdL.uniq a3 b3 c3, RdL.uniq a4 b4 c4]
def bigQ (y : Int) (x : QuX) : Bool := decide ((x.n.data.size : Int) > y)
end Go.Proofs.Ytmhoookhpcfagaa
namespace Go.Proofs.Ytmhoookhpcfagaa
open Go Go.RowKit Go.Shelf
attribute [local go_sem] Oper.semAt_some
theorem eall_in (n : Nat) (lv bn : Nat) (l : List RcX) (J : Nat → World → Prop) (Jx : World → Prop) (p : Option Addr) (c : Nat) (hll : l.length ≤ 4611686018427387903)
  (hRp : l ≠ [] → ∃ b o, p = some ⟨b, o, none⟩ ∧ ∀ i W, J i W → ∀ k (_ : k < l.length) j u, l[k].g[j]? = some u → W.cell? ⟨b, o + k * 5 + j, none⟩ = some u)
  (hJ : ∀ i W W', J i W → W.grownBy W' none → J i W')
  (hS : ∀ i (h : i < l.length) W, J i W → l[i].t ≠ 41 → J (i + 1) W)
  (hY : ∀ i (h : i < l.length) W, J i W → l[i].t = 41 → YieldAt Fence.wide (n - 1) Try.prog lv #[.int .i64 (i : Int), .agg #[.string l[i].n, .int .i64 l[i].t, .int .i64 l[i].c, .int .i64 l[i].ttl, .string l[i].d]] W fun e W' =>
   (e = .returned (.bool true) ∧ J (i + 1) W') ∨ (e = .returned (.bool false) ∧ Jx W'))
  (W : World) (hv : W.cell? ⟨bn, 0, none⟩ = some (.slice p l.length c)) (h0 : J 0 W) : CallsIn Fence.wide n Try.prog 90 (#[.func (.yield lv) #[] #[]] ++ #[.pointer (some ⟨bn, 0, none⟩)]) W fun e W' => (∃ v, e = .returned v) ∧ (J l.length W' ∨ Jx W') := by
 refine callsIn_of_wp Try.func90 rfl trivial ?_ rfl
 simp only [Try.ntmps90, List.size_toArray, List.length_cons, List.length_nil, Nat.reduceAdd, Nat.reduceSub, Array.replicate_succ, Array.replicate_zero, List.push_toArray, List.append_toArray, List.nil_append, List.cons_append]
 gi_wp2
 gi_loopw [7] (fun i wr => ∃ k : Nat, k ≤ l.length ∧ i = .int .i64 k ∧ J k wr) (fun i _ => l.length - (intOf i).toNat)
 case atStart => exact ⟨0, Nat.zero_le _, rfl, h0⟩
 case round =>
  obtain ⟨k, hk, rfl, hJk⟩ := hrel
  by_cases hlt : k < l.length
  ·obtain ⟨b, o, rfl, hR⟩ := hRp (fun e => by rw [e] at hlt; exact absurd hlt (by simp))
   have hc := fun j u h => hR k wr hJk k hlt j u h
   have hSk := hS k hlt
   have hYk := hY k hlt
   generalize l[k] = x at hc hSk hYk
   obtain ⟨xn, xt, xc, xw, xd⟩ := x
   have c0 := hc 0 _ rfl
   have c1 := hc 1 _ rfl
   have c2 := hc 2 _ rfl
   have c3 := hc 3 _ rfl
   have c4 := hc 4 _ rfl
   simp only [Nat.add_zero] at c0
   clear hc hR hRp hS hY
   by_cases hx : xt = 41
   ·have hq : (xt == 41) = true := by simp [hx]
    have HX := Lib.hid hx
    clear hx
    have hJa := fun o => hJ k wr (wr.alloc o) hJk (World.grownBy_alloc wr o none)
    gi_wp2
    obtain ⟨fn, tmps, assign, body, hy, hRd⟩ := hYk _ (hJa (.cells #[.string xn, .int .i64 xt, .int .i64 xc, .int .i64 xw, .string xd] 41)) HX.out
    rw [hy]
    gi_wp2
    refine ⟨(fun h => by cases h), hRd.mono ?_⟩
    rintro e W3 (⟨rfl, hr⟩ | ⟨rfl, hr⟩)
    ·gi_wp2
     go_roundw
     case rel => exact ⟨k + 1, by omega, by go_num, hr⟩
     case measure => simp [intOf]; omega
    ·gi_wp2
     refine bodyPost_ret (results_none rfl _ _ _) rfl ?_
     exact ⟨⟨_, rfl⟩, .inr hr⟩
   ·have hq : (xt == 41) = false := by simp [hx]
    have HX := Lib.hid hx
    clear hx
    gi_wp2
    refine ⟨nofun, ?_⟩
    gi_wp2
    go_roundw
    case rel => exact ⟨k + 1, by omega, by go_num, hSk _ (hJ k wr _ hJk (World.grownBy_alloc wr _ none)) HX.out⟩
    case measure => simp [intOf]; omega
  ·gi_wp2
   refine bodyPost_end (results_none rfl _ _ _) rfl ⟨⟨_, rfl⟩, .inl ?_⟩
   rw [show l.length = k by omega]; exact hJk
end Go.Proofs.Ytmhoookhpcfagaa
namespace Go.Proofs.Ytmhoookhpcfagaa
open Go Go.RowKit
theorem KpV.mono {k k' : Nat} {v : Value} (h : KpV k v) (hk : k ≤ k') : KpV k' v := fun E E' x ha => h E E' x ⟨fun i hi => ha.nm i (by omega), ha.fz⟩
theorem zOc {k : Nat} : KpV k undef := KpV.plain (n := 2) rfl
theorem slots_kp {k d : Nat} {lv : List (Nat × Value)} {g : Nat → Option Value} (h1 : ∀ p ∈ lv, KpV k p.2) (h2 : ∀ t, KpV k ((g t).getD undef)) (t : Nat) : KpV k (((slots d lv g).get t).getD undef) := by
 unfold slots
 rw [zEh]
 split
 ·rcases zHq (0 + 1 * t) (g (0 + 1 * t)) lv with ⟨v, hv, e⟩ | e
  ·rw [e]; exact h1 _ hv
  ·rw [e]; exact h2 _
 ·exact zOc
theorem rc_blur {P : Program} {g0 k0 nt d : Nat} {rd : Option Nat} {lv : List (Nat × Value)} {f : Nat → Option Value} {H : Tr AObj} {n : Nat} {W : List Nat} {df : List ADf} (hk : k0 ≤ n) :
  ∃ g, (∀ t, KpV 0 ((g t).getD undef)) ∧ RcM P g0 k0 nt rd ⟨slots d lv f, H, n, W, df⟩ ⟨slots d lv g, H, n, W, df⟩ := by
 refine ⟨fun t => (f t).map fun v => Classical.choose (zFr v), fun t => ?_, hk, .refl _ _, fun E a w hf => ⟨E, ⟨⟨hf.tr.1, fun t => ?_⟩, hf.hr, hf.lw, hf.df, hf.gl, hf.rd, hf.top⟩, .refl _ _ _ _⟩⟩
 ·show KpV 0 (((f t).map fun v => Classical.choose (zFr v)).getD undef)
  cases f t with
  | none => exact zOc
  | some v => exact (Classical.choose_spec (zFr v)).1
 ·have h : VR E (((slots d lv f).get t).getD undef) (a.tmps.getD t undef) := hf.tr.2 t
  show VR E (((slots d lv _).get t).getD undef) (a.tmps.getD t undef)
  generalize a.tmps.getD t undef = z at h ⊢
  unfold slots at h ⊢
  rw [zEh] at h ⊢
  split at h
  ·rename_i ht
   rw [if_pos ht]
   generalize 0 + 1 * t = j at h ⊢
   clear ht hf
   induction lv with
   | nil =>
    simp only [lkp] at h ⊢
    cases hv : f j with
    | none => rw [hv] at h; exact h
    | some v => rw [hv] at h; exact (Classical.choose_spec (zFr v)).2 E z h
   | cons p l ih =>
    obtain ⟨i, v⟩ := p
    simp only [lkp] at h ⊢
    cases hb : i.beq j with
    | true => rw [hb] at h; exact h
    | false => rw [hb] at h; exact ih h
  ·rename_i ht
   rw [if_neg ht]; exact h
def recV (x : RcX) : Value := .agg #[.string x.n, .int .i64 x.t, .int .i64 x.c, .int .i64 x.ttl, .string x.d]
def RoundS (P : Program) (k1 nt lp : Nat) (asg body : Code) (T0 : Tr Value) (ps : Array Tmp) (V : List Nat) (i : Nat) (x : RcX) (H : Tr AObj) (n : Nat) (ex : Ex) (H' : Tr AObj) (n' : Nat) : Prop :=
 ∃ T, zipSet nt (ps.toList.zip [.int .i64 (i : Int), recV x]) T0 = some T ∧
  CW P 0 k1 nt (some lp) asg ⟨T, H, n, V, []⟩ (fun x1 s1 => x1 = .normal ∧ zFa s1.H ∧
   CW P 0 k1 nt (some lp) body s1 (fun x2 s2 => x2 = ex ∧ ∃ T', RcM P 0 k1 nt (some lp) s2 ⟨T', H', n', V, []⟩))
def jumpC : Ex → Option Code
 | .ret => some .ret
 | .exit id => some (.exit id)
 | _ => none
structure RgJ (k1 lp L : Nat) (V : List Nat) (E0 : Env) (w0 : World) (R : Loop) (H : Tr AObj) (n : Nat) (E : Env) (w : World) : Prop where
 fh : FH Try.prog 0 E H n w
 kp : Kept k1 (lp :: V) E0 E w0 w
 tn : ∀ i, Tch k1 V E i → E.ρ i ≠ L
 rc : w.heap[L]? = some (.loop R)
 fl : E.fz L = none
theorem zOf {k1 nt lp L i : Nat} {asg body : Code} {T0 : Tr Value} {ps : Array Tmp} {V : List Nat} {x : RcX} {H H' : Tr AObj} {n n' : Nat} {ex : Ex} {R : Loop} {E0 E : Env} {w0 W : World}
  (hr : RoundS Try.prog k1 nt lp asg body T0 ps V i x H n ex H' n') (hps : ps.size = 2) (hlp : lp < k1) (_ : lp ∉ V) (hJJ : k1 ≤ JJ) (hn : k1 ≤ n) (hx : ex = .normal ∨ ∃ c, jumpC ex = some c) (hnl' : zFa H')
  (hR : R.state = .ready ∧ R.params = ps ∧ R.assign = asg ∧ R.body = body) (hT0 : ∀ t, KpV k1 ((T0.get t).getD undef)) (hTR : TR E0 T0 nt R.tmps) (hd0 : E0.dom lp ∧ E0.ρ lp = L ∧ ¬ E0.ro lp)
  (hJ : RgJ k1 lp L V E0 w0 R H n E W) :
  YieldAt Fence.wide 0 Try.prog L #[.int .i64 (i : Int), recV x] W fun e W' => e = .returned (.bool (jumpC ex).isNone) ∧ ∃ E', RgJ k1 lp L V E0 w0 { R with state := if (jumpC ex).isNone then .ready else .done, pending := jumpC ex } H' n' E' W' := by
 obtain ⟨fh, kp, tn, rc, fl⟩ := hJ
 obtain ⟨T, hz, hcw⟩ := hr
 obtain ⟨hR1, rfl, rfl, rfl⟩ := hR
 have hL : L < W.heap.size := (Array.getElem?_eq_some_iff.1 rc).1
 have hdl : E.dom lp := (kp.dom lp hlp).2 hd0.1
 have hρ : E.ρ lp = L := (kp.ρ lp hlp hd0.1).trans hd0.2.1
 have hrl : ∀ l, some lp = some l → l < k1 := fun l e => by cases e; exact hlp
 refine ⟨_, _, _, _, run_yield rc (by rw [hps]; rfl), roundIn_of_wpIn trivial ?_⟩
 obtain ⟨x1, s1, hs1, rfl, hnl1, hcw2⟩ := hcw hrl hn
 obtain ⟨x2, s2, hs2, rfl, T', hrc⟩ := hcw2 hrl hs1.1
 have hfr : FRn Try.prog 0 E nt (some lp) ⟨T, H, n, V, []⟩ { tmps := (R.params.zip #[.int .i64 (i : Int), recV x]).foldl (fun tmps (x : Tmp × Value) => tmps.setIfInBounds x.1 x.2) R.tmps, defers := [] } W := by
  refine ⟨?_, fh.hr, fh.lw, .nil, fh.gl, fun l e => by cases e; exact hdl, fh.top⟩
  have := zIh R.params.toList [.int .i64 (i : Int), recV x] [.int .i64 (i : Int), recV x] (.cons _ _ _ _ (zAc 8 rfl) (.cons _ _ _ _ (zAc 8 rfl) .nil)) _ _ _ (TR.keep kp.agr hT0 hTR) hz
  show TR E T nt _
  rw [← Array.foldl_toList, Array.toList_zip]
  exact this
 have hF : rdF E (some lp) = Fence.wide.inRound L := by rw [← hρ]; rfl
 have h1 := hs1.2.2 E _ W hfr
 rw [hF] at h1
 refine wpIn_mono h1 ?_
 rintro e a1 w1 ⟨E1, fr1, ex1, kp1⟩
 cases zBl ex1
 have sw1 : subW k1 s1.wr V := hs2.2.1.trans hrc.2.1
 have rc1 : w1.heap[L]? = some (.loop R) := (kp1.atL sw1 hL tn).trans rc
 have hL1 : L < w1.heap.size := (Array.getElem?_eq_some_iff.1 rc1).1
 have hdl1 : E1.dom lp := (kp1.dom lp hlp).2 hdl
 have hρ1 : E1.ρ lp = L := (kp1.ρ lp hlp hdl).trans hρ
 have tn1 := zKi kp1 sw1 hL tn
 have fl1 := zJv kp1 sw1 hL tn fl
 have nro : ∀ {E' : Env} {w' : World}, Kept k1 (lp :: V) E0 E' w0 w' → Tch k1 (lp :: V) E' lp := fun {E' w'} h => ⟨(h.dom lp hlp).2 hd0.1, by omega, fun _ => ⟨by simp, fun x => hd0.2.2 ((h.ro lp hlp hd0.1).1 x)⟩⟩
 have sv : subW k1 V (lp :: V) := fun k hk _ => by simp [hk]
 have kpA : Kept k1 (lp :: V) E0 E1 w0 w1 := kp.trans (kp1.sub (sw1.trans sv)) (.refl _ _)
 show ∃ w₂, _ ∧ _
 refine ⟨_, run_beginRound rc1 hR1, ?_⟩
 have h2 := hs2.2.2 E1 a1 _ (fr1.putL rc1 hnl1 fl1 (.loop { R with state := .busy }))
 rw [show rdF E1 (some lp) = Fence.wide.inRound L by rw [← hρ1]; rfl] at h2
 refine wpIn_mono h2 ?_
 rintro e a2 w3 ⟨E3, fr3, ex3, kp3⟩
 obtain ⟨E4, fr4, kp4⟩ := hrc.2.2 E3 a2 w3 fr3
 have rcb : (w1.putObj L (.loop { R with state := .busy })).heap[L]? = some (.loop { R with state := .busy }) := World.putObj_heap_same hL1
 have hL2 : L < (w1.putObj L (.loop { R with state := .busy })).heap.size := by simpa using hL1
 have sw2 : subW k1 s2.wr V := hrc.2.1
 have rc3 : w3.heap[L]? = some (.loop { R with state := .busy }) := (kp3.atL sw2 hL2 tn1).trans rcb
 have hL3 : L < w3.heap.size := (Array.getElem?_eq_some_iff.1 rc3).1
 have tn3 := zKi kp3 sw2 hL2 tn1
 have tn4 := zKi kp4 (.refl _ _) hL3 tn3
 have fl4 := zJv kp4 (.refl _ _) hL3 tn3 (zJv kp3 sw2 hL2 tn1 fl1)
 have kpB : Kept k1 (lp :: V) E0 E1 w0 (w1.putObj L (.loop { R with state := .busy })) :=
  kpA.trans (Kept.putL (.refl k1 (lp :: V) E1 w1) hρ1 (nro kpA) _) (.refl _ _)
 have kpC : Kept k1 (lp :: V) E0 E3 w0 w3 := kpB.trans (kp3.sub (sw2.trans sv)) (.refl _ _)
 have kpD : Kept k1 (lp :: V) E0 E4 w0 w3 := kpC.trans (kp4.sub sv) (.refl _ _)
 have hρ4 : E4.ρ lp = L := (kpD.ρ lp hlp hd0.1).trans hd0.2.1
 have fin : ∀ o, Kept k1 (lp :: V) E0 E4 w0 (w3.putObj L o) := fun o => kpD.trans (Kept.putL (.refl k1 (lp :: V) E4 w3) hρ4 (nro kpD) _) (.refl _ _)
 have out : ∃ v w', (Instr.endRound L (jumpC x2)).run Try.prog w3 = .ok v w' ∧ (Ending.returned v = .returned (.bool (jumpC x2).isNone) ∧ ∃ E', RgJ k1 lp L V E0 w0 { R with state := if (jumpC x2).isNone then .ready else .done, pending := jumpC x2 } H' n' E' w') :=
  ⟨_, _, run_endRound (jumpC x2) rc3, rfl, E4, ⟨fr4.hr.putL rc3 hnl' fl4 _, fr4.lw, fr4.gl, fr4.top⟩, fin _, tn4, World.putObj_heap_same hL3, fl4⟩
 rcases hx with rfl | ⟨c, hc⟩
 ·cases zBl ex3; exact out
 ·cases x2 with
  | ret => cases e <;> first | exact False.elim ex3 | exact out
  | exit id => cases e <;> first | exact False.elim ex3 | (cases ex3; exact out)
  | _ => cases hc
end Go.Proofs.Ytmhoookhpcfagaa
namespace Go.Proofs.Ytmhoookhpcfagaa
open Go Go.RowKit
def stX (st : Option (Ex × Tr AObj × Nat)) : Ex := match st with | none => .normal | some x => x.1
def stH (H : Tr AObj) (st : Option (Ex × Tr AObj × Nat)) : Tr AObj := match st with | none => H | some x => x.2.1
def stN (n : Nat) (st : Option (Ex × Tr AObj × Nat)) : Nat := match st with | none => n | some x => x.2.2
def StopS (k1 nt lp : Nat) (asg body : Code) (T0 : Tr Value) (ps : Array Tmp) (V : List Nat) (l : List RcX) (m : Nat) (H : Tr AObj) (n : Nat) : Option (Ex × Tr AObj × Nat) → Prop
 | none => m = l.length
 | some (x, H', n') => (∃ c, jumpC x = some c) ∧ zFa H' ∧ k1 ≤ n' ∧ ∃ h : m < l.length, l[m].t = 41 ∧ RoundS Try.prog k1 nt lp asg body T0 ps V m l[m] H n x H' n'
theorem cw_eall {k0 nt : Nat} {g : Operand} {ps : Array Tmp} {asg body : Code} {s : Fs} {K : Ex → Fs → Prop} (l : List RcX) (kc : Nat) (vl : Value) (tb : TypeId) (V : List Nat) (Zh : Nat → Tr AObj) (Zn : Nat → Nat) (m : Nat) (st : Option (Ex × Tr AObj × Nat))
  (hg : aev s.T g = .func (.func 90) #[] #[.pointer (some ⟨kc, 0, none⟩)]) (hok : okX 0 g = true) (hps : ps.size = 2) (hJJ : s.n + 2 ≤ JJ) (hll : l.length ≤ 4611686018427387903) (hlV : s.n + 1 ∉ V) (hdf : s.df = [])
  (hT : ∀ t, KpV s.n ((s.T.get t).getD undef)) (hkc : s.H.get kc = some (.cells [vl] tb))
  (hvl : (vl = .slice none 0 0 ∧ l = []) ∨ (∃ b o c, vl = .slice (some ⟨b, o, none⟩) l.length c ∧ b < s.n ∧ ∀ i, i ≤ m → ∃ ob C, (Zh i).get b = some ob ∧ ob.look = some C ∧ ∀ k (_ : k < l.length) j u, l[k].g[j]? = some u → C[o + k * 5 + j]? = some u) ∨ vl = treeV 5 l.length (l.flatMap layR.g))
  (hstart : ∃ T', RcM Try.prog 0 (s.n + 2) nt none ⟨s.T, s.H.set s.n (some .defs), s.n + 2, s.wr, []⟩ ⟨T', Zh 0, Zn 0, V, []⟩)
  (hnl : ∀ i, i ≤ m → zFa (Zh i)) (hZn : ∀ i, i ≤ m → s.n + 2 ≤ Zn i)
  (hround : ∀ i (h : i < l.length), i < m → l[i].t = 41 → RoundS Try.prog (s.n + 2) nt (s.n + 1) asg body s.T ps V i l[i] (Zh i) (Zn i) .normal (Zh (i + 1)) (Zn (i + 1)))
  (hskip : ∀ i (h : i < l.length), i < m → l[i].t ≠ 41 → Zh (i + 1) = Zh i ∧ Zn (i + 1) = Zn i)
  (hst : StopS (s.n + 2) nt (s.n + 1) asg body s.T ps V l m (Zh m) (Zn m) st)
  (hK : K (stX st) ⟨s.T, stH (Zh m) st, stN (Zn m) st, (s.n + 1) :: V, .mark s.n :: s.df⟩) : CW Try.prog 0 k0 nt none (.rangeFunc g ps asg body) s K := by
 intro _ hk0
 obtain ⟨T1, hst1⟩ := hstart
 have hm : m ≤ l.length := by
  cases st with
  | none => exact Nat.le_of_eq hst
  | some x => obtain ⟨_, _, _, h, _⟩ := hst; omega
 have hsub : subW k0 s.wr ((s.n + 1) :: V) := fun k hk hk2 => by
  have := hst1.2.1 k hk (by show k < s.n + 2; omega)
  exact List.mem_cons_of_mem _ this
 have hle : s.n + 2 ≤ stN (Zn m) st := by
  cases st with
  | none => exact hZn m (Nat.le_refl _)
  | some x => exact hst.2.2.1
 refine ⟨stX st, _, ⟨by show k0 ≤ stN (Zn m) st; omega, hsub, fun E a w hf => ?_⟩, hK⟩
 refine wpIn_rangeFunc fun fn _ => ?_
 have hd1 : ¬ E.dom s.n := fun h => by rcases hf.top _ h with h | h <;> omega
 obtain ⟨k1, k2⟩ := hf.hr.new hd1 (.deferred (some [])) .defs 0 0 (by show _ = _; rw [Env.push_ρ]; exact heap_alloc_new w _)
 obtain ⟨E1, hE1⟩ : ∃ E1, E.push s.n w.heap.size 0 0 = E1 := ⟨_, rfl⟩
 rw [hE1] at k1 k2
 obtain ⟨w1, hw1⟩ : ∃ w1, w.alloc (.deferred (some [])) = w1 := ⟨_, rfl⟩
 rw [hw1] at k1 k2
 have hsz1 : w1.heap.size = w.heap.size + 1 := by rw [← hw1]; simp
 have hdE1 : ∀ k, E1.dom k → E.dom k ∨ k = s.n := fun k h => by rw [← hE1] at h; rcases h with h | h; exact .inr h; exact .inl h
 have hd2 : ¬ E1.dom (s.n + 1) := fun h => by
  rcases hdE1 _ h with h | h
  ·rcases hf.top _ h with h | h <;> omega
  ·omega
 obtain ⟨R, hR⟩ : ∃ R : LoopState → Option Code → Loop, R = fun q pe => { state := q, pending := pe, fn, tmps := a.tmps, params := ps, assign := asg, body, defers := w.heap.size } := ⟨_, rfl⟩
 obtain ⟨q1, q2⟩ := k1.new hd2 (.loop (R .ready none)) (.win [] 0) 0 0 ⟨Env.push_sz _ _ _ _ _, [], rfl, .nil, fun j v h => by simp at h⟩
 obtain ⟨E0, hE0⟩ : ∃ E0, E1.push (s.n + 1) w1.heap.size 0 0 = E0 := ⟨_, rfl⟩
 rw [hE0] at q1 q2
 obtain ⟨w2, hw2⟩ : ∃ w2, w1.alloc (.loop (R .ready none)) = w2 := ⟨_, rfl⟩
 rw [hw2] at q1 q2
 have hLrec : w2.heap[w1.heap.size]? = some (.loop (R .ready none)) := by rw [← hw2]; exact heap_alloc_new w1 _
 have hH1 : (s.H.set s.n (some .defs)).get (s.n + 1) = none := (hf.lw.new _) _ (Nat.le_refl _)
 have hr0 : HR Try.prog E0 (s.H.set s.n (some .defs)).get w2 := q1.sub (fun k o ho => by
  rw [zBo] at ho
  show (if k = s.n + 1 then _ else _) = _
  rw [if_neg (fun e => by rw [e, ← zBo, hH1] at ho; cases ho)]; exact ho)
 have hx : Ext E E0 := k2.ext.trans q2.ext
 have hdE0 : ∀ k, E0.dom k → E.dom k ∨ k = s.n ∨ k = s.n + 1 := fun k h => by
  rw [← hE0] at h
  rcases h with h | h
  ·exact .inr (.inr h)
  ·rcases hdE1 k h with h | h
   ·exact .inl h
   ·exact .inr (.inl h)
 have hlp0 : E0.dom (s.n + 1) ∧ E0.ρ (s.n + 1) = w1.heap.size ∧ ¬ E0.ro (s.n + 1) := by rw [← hE0]; exact ⟨Env.push_dom _ _ _ _ _, Env.push_ρ _ _ _ _ _, Env.push_ro _ _ _ _ _⟩
 have hdd0 : E0.dom s.n ∧ E0.ρ s.n = w.heap.size := by
  have h1 : E1.dom s.n ∧ E1.ρ s.n = w.heap.size := by rw [← hE1]; exact ⟨Env.push_dom _ _ _ _ _, Env.push_ρ _ _ _ _ _⟩
  exact ⟨q2.ext.n _ h1.1, (q2.ext.ρ _ h1.1).trans h1.2⟩
 have stp : Stp E E0 [] w w2 := (k2.trans q2).sub (fun x h => by cases h)
 have kp0 : Kept k0 ((s.n + 1) :: V) E E0 w w2 := by
  refine ⟨fun i hi => ⟨fun h => ?_, hx.n i⟩, fun i _ h => hx.ρ i h, fun i _ h => hx.tot i h, fun i _ h => hx.sz i h, fun i _ h => hx.sh i h, fun i _ h => hx.ro i h, fun hn i hi hJ hd => ?_, stp.os, stp.tape, stp.output, stp.size, fun b hb _ => stp.block b hb (fun _ h => by cases h), fun i hi hJ hd => ?_, hx.fz, fun b ob hb => (stp.fz b ob hb).imp (fun x => x) (fun y => y.imp (fun x => x) (fun ⟨_, h, _⟩ => nomatch h))⟩
  ·rcases hdE0 i h with h | h | h
   ·exact h
   ·omega
   ·omega
  ·by_cases h1 : E.dom i
   ·exact fun x => hn i hi hJ h1 ((hx.ro i h1).1 x)
   ·exact (stp.fresh i h1 hd).1
  ·by_cases h1 : E.dom i
   ·exact .inr ⟨i, ⟨h1, hJ, fun h => by omega⟩, (hx.ρ i h1).symm⟩
   ·rcases (stp.fresh i h1 hd).2 with h2 | ⟨_, h, _⟩
    ·exact .inl h2
    ·cases h
 have hf0 : FRn Try.prog 0 E0 nt none ⟨s.T, s.H.set s.n (some .defs), s.n + 2, s.wr, []⟩ { tmps := a.tmps, defers := [] } w2 :=
  ⟨hf.tr.ext hx, hr0, fun k hk => hf.lw.new _ k (by show s.n + 1 ≤ k; have : s.n + 2 ≤ k := hk; omega), .nil, fun g h => absurd h (Nat.not_lt_zero _), fun l h => (nomatch h), fun k h => by
   show k < s.n + 2 ∨ JJ ≤ k
   rcases hdE0 k h with h | h | h
   ·rcases hf.top k h with h | h
    ·exact .inl (by omega)
    ·exact .inr h
   ·exact .inl (by omega)
   ·exact .inl (by omega)⟩
 obtain ⟨E2, fr2, kp2⟩ := hst1.2.2 E0 _ w2 hf0
 have hLs : w1.heap.size < w2.heap.size := (Array.getElem?_eq_some_iff.1 hLrec).1
 have tn0 : ∀ i, Tch (s.n + 2) V E0 i → E0.ρ i ≠ w1.heap.size := fun i hi => by
  rcases hdE0 i hi.1 with h | h | h
  ·rw [hx.ρ i h]; have := hf.hr.lt i h; omega
  ·subst h; rw [hdd0.2]; omega
  ·subst h; exact absurd (hi.2.2 (by omega)).1 hlV
 have fl0 : E0.fz w1.heap.size = none := by
  cases hf0' : E0.fz w1.heap.size with
  | none => rfl
  | some ob =>
   have : E.fz w1.heap.size = some ob := by rw [← hE0, ← hE1] at hf0'; exact hf0'
   have := (Array.getElem?_eq_some_iff.1 (hf.hr.fz _ ob this)).1; omega
 have hT2 : ∀ t, KpV (s.n + 2) ((s.T.get t).getD undef) := fun t => (hT t).mono (by omega)
 have hTR : TR E0 s.T nt (R .ready none).tmps := by rw [hR]; exact hf.tr.ext hx
 have J0 : RgJ (s.n + 2) (s.n + 1) w1.heap.size V E0 w2 (R .ready none) (Zh 0) (Zn 0) E2 w2 :=
  ⟨fr2.fh, kp2.sub (fun k hk _ => by simp [hk]), zKi kp2 (.refl _ _) hLs tn0, hLrec, zJv kp2 (.refl _ _) hLs tn0 fl0⟩
 have hvg := zAr hf.tr hf.gl hok
 rw [hg] at hvg
 obtain ⟨cap', he, hcap⟩ : ∃ cap' : Array Value, a.eval g = .func (.func 90) #[] cap' ∧ VL E [.pointer (some ⟨kc, 0, none⟩)] cap'.toList := by
  cases hv' : a.eval g <;> rw [hv'] at hvg <;> cases hvg
  rename_i fi ca _ h1 h2
  have : fi.toList = [] := by generalize fi.toList = q at h1; cases h1; rfl
  exact ⟨ca, by rw [show fi = #[] from by rw [← Array.toArray_toList (xs := fi), this]], h2⟩
 have hkn : kc < s.n := hf.lw.lt (by rw [hkc]; simp)
 have hdk : E.dom kc := hf.hr.live (by rw [hkc]; simp)
 have hsh : E.sh kc = 0 := by obtain ⟨_, _, _, _, _, _, _, _, h7, _⟩ := hf.hr.obj kc _ hkc; exact h7
 obtain ⟨v', hv1, _, hv2⟩ := zAp (hr0.obj kc _ (by rw [Tr.get_set_ne _ _ (by omega)]; exact hkc)) 0 vl rfl
 rw [hx.ρ kc hdk] at hv1
 have hcap' : cap' = #[.pointer (some ⟨E.ρ kc, 0, none⟩)] := by
  have : cap'.toList = [.pointer (some ⟨E.ρ kc, 0, none⟩)] := by
   generalize cap'.toList = q at hcap
   cases hcap with
   | cons _ x _ y h1 h2 =>
    cases h2
    cases h1 with
    | ptr _ _ _ => rw [hsh]
  rw [← Array.toArray_toList (xs := cap'), this]
 subst hcap'
 obtain ⟨p, c', hvp, hpl⟩ : ∃ p c', v' = .slice p l.length c' ∧ (l ≠ [] → (∃ b o c, vl = .slice (some ⟨b, o, none⟩) l.length c ∧ E0.dom b ∧ p = some ⟨E0.ρ b, E0.sh b + o, none⟩) ∨ (∃ b o, p = some ⟨b, o, none⟩ ∧ vl = treeV 5 l.length (l.flatMap layR.g) ∧ ∀ (j : Nat) (u : Value), (l.flatMap layR.g)[j]? = some u → fzc E0.fz b (o + j) = some u)) := by
  rcases hvl with ⟨rfl, rfl⟩ | ⟨b, o, c, rfl, hb, _⟩ | rfl
  ·cases hv2; exact ⟨none, 0, rfl, fun h => absurd rfl h⟩
  ·generalize hn : l.length = n at hv2
   cases hv2 with
   | sl _ _ _ _ h hc => exact ⟨_, _, rfl, fun _ => .inl ⟨b, o, c, rfl, h, rfl⟩⟩
   | su _ _ _ _ h q1 q2 q3 => exact ⟨_, _, rfl, fun _ => .inl ⟨b, o, _, rfl, h, rfl⟩⟩
   | se _ _ _ a' h q1 q2 => exact ⟨_, _, rfl, fun hne => absurd (List.eq_nil_of_length_eq_zero hn) hne⟩
  ·obtain ⟨b, o, k, a', x, rfl, hl1, _, _, ha, h1, h2⟩ := hv2.tree_inv
   simp only [] at h1 h2
   refine ⟨_, _, rfl, fun hne => .inr ?_⟩
   rcases ha with rfl | ⟨h0, _⟩
   ·refine ⟨b, o, rfl, rfl, fun j u hj => ?_⟩
    have hu : plainV 8 u = true := List.all_eq_true.1 (zAj layR.g layR.plain l) u (List.mem_of_getElem? hj)
    have h3 := h2 j u hj
    rw [h1 j (List.getElem?_eq_some_iff.1 hj).1, zAz 8 hu h3.vr (E := E0)]
   ·exact absurd (List.eq_nil_of_length_eq_zero h0) hne
 subst hvp
 obtain ⟨L, hLd⟩ : ∃ L, w1.heap.size = L := ⟨_, rfl⟩
 have hLn : w.heap.size + 1 = L := hsz1.symm.trans hLd
 have hc := eall_in 0 L (E.ρ kc) l (fun i W => i ≤ m ∧ ∃ E', RgJ (s.n + 2) (s.n + 1) L V E0 w2 (R .ready none) (Zh i) (Zn i) E' W)
  (fun W => ∃ x H' n', st = some (x, H', n') ∧ ∃ E', RgJ (s.n + 2) (s.n + 1) L V E0 w2 (R .done (jumpC x)) H' n' E' W) p c' hll
  (fun hne => by
   rcases hpl hne with ⟨b, o, c, e1, hdb, rfl⟩ | ⟨b, o, rfl, _, hcell⟩
   rotate_left
   ·refine ⟨b, o, rfl, fun i W hJ k hk j u hu => ?_⟩
    obtain ⟨him, E', hJ⟩ := hJ
    have hj5 : j < 5 := by have := (List.getElem?_eq_some_iff.1 hu).1; exact this
    have h4 : (l.flatMap layR.g)[k * 5 + j]? = some u := by
     have := RdL.cell layR [] [] l k j hk hj5
     simp only [List.nil_append, List.append_nil, List.length_nil, Nat.zero_add] at this
     exact this.trans hu
    have h5 := zJw hJ.kp.fz (hcell _ _ h4)
    have h6 := hJ.fh.hr.fzc h5
    rw [Nat.add_assoc]; exact h6
   rcases hvl with ⟨_, h⟩ | ⟨b', o', c2, e2, hb, hz⟩ | h
   ·exact absurd h hne
   rotate_left
   ·rw [h] at e1; cases e1
   rw [e1] at e2
   simp only [Value.slice.injEq, Option.some.injEq, Addr.mk.injEq] at e2
   obtain ⟨⟨rfl, rfl, _⟩, _, rfl⟩ := e2
   refine ⟨_, _, rfl, fun i W hJ k hk j u hu => ?_⟩
   obtain ⟨him, E', hJ⟩ := hJ
   obtain ⟨ob, C, z1, z2, z3⟩ := hz i him
   obtain ⟨u', c1, c2⟩ := (hJ.fh.hr.obj b ob z1).look_at z2 _ u (z3 k hk j u hu)
   have hpu : plainV 8 u = true := List.all_eq_true.1 (layR.plain l[k]) u (List.mem_of_getElem? hu)
   rw [zAz 8 hpu c2, hJ.kp.ρ b (by omega) hdb, hJ.kp.sh b (by omega) hdb] at c1
   rw [← c1]; congr 2; omega)
  (fun i W W' ⟨him, E', hJ⟩ hg => ⟨him, E', ⟨hJ.fh.hr.grow hg, hJ.fh.lw, hJ.fh.gl, hJ.fh.top⟩, hJ.kp.grow hg, hJ.tn, (hg.block L (Array.getElem?_eq_some_iff.1 hJ.rc).1 (by simp)).trans hJ.rc, hJ.fl⟩)
  (fun i h W ⟨him, E', hJ⟩ ht => by
   by_cases h1 : i < m
   ·obtain ⟨e1, e2⟩ := hskip i h h1 ht
    exact ⟨h1, E', by rw [e1, e2]; exact hJ⟩
   ·have : i = m := by omega
    subst this
    cases st with
    | none => have : i = l.length := hst; omega
    | some x => obtain ⟨_, _, _, _, h41, _⟩ := hst; exact absurd h41 ht)
  (fun i h W ⟨him, E', hJ⟩ ht => by
   have hRR : (R .ready none).state = .ready ∧ (R .ready none).params = ps ∧ (R .ready none).assign = asg ∧ (R .ready none).body = body := by rw [hR]; exact ⟨rfl, rfl, rfl, rfl⟩
   by_cases h1 : i < m
   ·obtain ⟨fn', tm, as', bo, y1, y2⟩ := zOf (hround i h h1 ht) hps (by omega) hlV hJJ (hZn i him) (.inl rfl) (hnl (i + 1) h1) hRR hT2 hTR (by rw [← hLd]; exact hlp0) hJ
    refine ⟨fn', tm, as', bo, y1, y2.mono fun e W' ⟨he, E'', hj⟩ => .inl ⟨he, h1, E'', ?_⟩⟩
    rw [hR] at hj ⊢; exact hj
   ·have : i = m := by omega
    subst this
    cases st with
    | none => have : i = l.length := hst; omega
    | some x =>
     obtain ⟨x, H', n'⟩ := x
     obtain ⟨⟨c, hjc⟩, hn2, _, _, _, hrd⟩ := hst
     obtain ⟨fn', tm, as', bo, y1, y2⟩ := zOf hrd hps (by omega) hlV hJJ (hZn i him) (.inr ⟨c, hjc⟩) hn2 hRR hT2 hTR (by rw [← hLd]; exact hlp0) hJ
     refine ⟨fn', tm, as', bo, y1, y2.mono fun e W' ⟨he, E'', hj⟩ => .inr ⟨by rw [he, hjc]; rfl, x, H', n', rfl, E'', ?_⟩⟩
     rw [hR] at hj ⊢; rw [hjc] at hj ⊢; exact hj)
  w2 hv1 ⟨Nat.zero_le _, E2, by rw [← hLd]; exact J0⟩
 have hconst : ∀ v, a.eval (.const v) = v := fun _ => rfl
 obtain ⟨_, _, _, _, hrun⟩ := zBs (show callable Try.prog 90 = true by kernel_rfl)
 have hdfa : a.defers = [] := by
  have := hf.df
  rw [hdf] at this
  generalize a.defers = q at this
  cases this; rfl
 have fin : ∀ (x : Ex) (e : Exit) (H' : Tr AObj) (n' : Nat) (E' : Env) (w3 : World) (q : LoopState) (pe : Option Code), RgJ (s.n + 2) (s.n + 1) L V E0 w2 (R q pe) H' n' E' w3 → zFa H' → exR E' x e → ∀ o,
   SP Try.prog 0 k0 E w nt none x ⟨s.T, H', n', (s.n + 1) :: V, .mark s.n :: s.df⟩ e { a with defers := [{ target := .collected w.heap.size, args := #[] }] ++ a.defers } (w3.putObj L o) := by
  intro x e H' n' E' w3 q pe hj hnH hex o
  have hdd : E'.dom s.n := (hj.kp.dom s.n (by omega)).2 hdd0.1
  have hrr : E'.ρ s.n = w.heap.size := (hj.kp.ρ s.n (by omega) hdd0.1).trans hdd0.2
  have htch : Tch (s.n + 2) ((s.n + 1) :: V) E' (s.n + 1) := ⟨(hj.kp.dom _ (by omega)).2 hlp0.1, by omega, fun _ => ⟨by simp, fun z => hlp0.2.2 ((hj.kp.ro _ (by omega) hlp0.1).1 z)⟩⟩
  have hrl : E'.ρ (s.n + 1) = L := (hj.kp.ρ _ (by omega) hlp0.1).trans (hlp0.2.1.trans hLd)
  refine ⟨E', ⟨TR.keep hj.kp.agr hT2 (hf.tr.ext hx), hj.fh.hr.putL hj.rc hnH hj.fl o, hj.fh.lw, ?_, hj.fh.gl, fun l h => (nomatch h), hj.fh.top⟩, hex, ?_⟩
  ·have := DR.mark (E := E') s.n [] [] hdd .nil
   rw [hrr] at this
   show DR E' (.mark s.n :: s.df) ([_] ++ a.defers)
   rw [hdf, hdfa]; exact this
  ·exact kp0.trans (((hj.kp.trans (Kept.putL (.refl _ _ E' w3) hrl htch o) (.refl _ _))).weak (by omega)) (.refl _ _)
 have hent := run_enterLoop_outer (P := Try.prog) (w := w) fn a.tmps ps asg body
 rw [hw1, hLn] at hent
 have hRr : ({ state := .ready, pending := none, fn, tmps := a.tmps, params := ps, assign := asg, body, defers := w.heap.size } : Loop) = R .ready none := by rw [hR]
 rw [hRr, hw2] at hent
 refine zJz (f := 90) (args := #[.func (.yield L) #[] #[]] ++ #[.pointer (some ⟨E.ρ kc, 0, none⟩)]) (d := { target := .fn (.func 90) #[.pointer (some ⟨E.ρ kc, 0, none⟩)], args := #[] ++ #[.func (.yield L) #[] #[]] }) hent (by simp [resolve, he, hconst, Deferred.ofValue]) (by simp [invoke, hrun]) (zFs ?_)
 refine hc.mono ?_
 rintro e w3 ⟨⟨v, rfl⟩, ⟨him, E', hj⟩ | ⟨x, H', n', rfl, E', hj⟩⟩
 ·have hml : m = l.length := by omega
  subst hml
  cases st with
  | some x => obtain ⟨_, _, _, h, _⟩ := hst; exact absurd h (Nat.lt_irrefl _)
  | none =>
   refine ⟨_, _, run_endLoop hj.rc (by rw [hR]; simp), ?_⟩
   rw [show (R .ready none).pending = none by rw [hR]]
   exact fin .normal .normal _ _ E' w3 _ _ hj (hnl _ (Nat.le_refl _)) trivial _
 ·obtain ⟨⟨c, hjc⟩, hn2, _⟩ := hst
  refine ⟨_, _, run_endLoop hj.rc (by rw [hR]; simp), ?_⟩
  rw [show (R .done (jumpC x)).pending = jumpC x by rw [hR]]
  cases x with
  | ret => exact wpIn_ret (fin .ret .ret _ _ E' w3 _ _ hj hn2 trivial _)
  | exit id => exact wpIn_exit (fin (.exit id) (.exit id) _ _ E' w3 _ _ hj hn2 rfl _)
  | _ => cases hjc
theorem cw_rangeE {k0 nt : Nat} {g : Operand} {ps : Array Tmp} {asg body : Code} {T : Tr Value} {H : Tr AObj} {W : List Nat} {K : Ex → Fs → Prop} (n lp k1 : Nat) (hn1 : lp = n + 1) (hn2 : k1 = n + 2) (l : List RcX) (kc : Nat) (vl : Value) (tb : TypeId) (V : List Nat) (Zh : Nat → Tr AObj) (Zn : Nat → Nat) (m : Nat) (st : Option (Ex × Tr AObj × Nat))
  (hg : aev T g = .func (.func 90) #[] #[.pointer (some ⟨kc, 0, none⟩)]) (hok : okX 0 g = true) (hps : ps.size = 2) (hJJ : k1 ≤ JJ) (hll : l.length ≤ 4611686018427387903) (hlV : lp ∉ V)
  (hT : ∀ t, KpV n ((T.get t).getD undef)) (hkc : H.get kc = some (.cells [vl] tb))
  (hvl : (vl = .slice none 0 0 ∧ l = []) ∨ (∃ b o c, vl = .slice (some ⟨b, o, none⟩) l.length c ∧ b < n ∧ ∀ i, i ≤ m → ∃ ob C, (Zh i).get b = some ob ∧ ob.look = some C ∧ ∀ k (_ : k < l.length) j u, l[k].g[j]? = some u → C[o + k * 5 + j]? = some u) ∨ vl = treeV 5 l.length (l.flatMap layR.g))
  (hstart : ∃ T', RcM Try.prog 0 k1 nt none ⟨T, H.set n (some .defs), k1, W, []⟩ ⟨T', Zh 0, Zn 0, V, []⟩)
  (hnl : ∀ i, i ≤ m → zFa (Zh i)) (hZn : ∀ i, i ≤ m → k1 ≤ Zn i)
  (hround : ∀ i (h : i < l.length), i < m → l[i].t = 41 → RoundS Try.prog k1 nt lp asg body T ps V i l[i] (Zh i) (Zn i) .normal (Zh (i + 1)) (Zn (i + 1)))
  (hskip : ∀ i (h : i < l.length), i < m → l[i].t ≠ 41 → Zh (i + 1) = Zh i ∧ Zn (i + 1) = Zn i)
  (hst : StopS k1 nt lp asg body T ps V l m (Zh m) (Zn m) st)
  (hK : K (stX st) ⟨T, stH (Zh m) st, stN (Zn m) st, lp :: V, [.mark n]⟩) : CW Try.prog 0 k0 nt none (.rangeFunc g ps asg body) ⟨T, H, n, W, []⟩ K := by
 subst hn1; subst hn2
 exact cw_eall (s := ⟨T, H, n, W, []⟩) l kc vl tb V Zh Zn m st hg hok hps hJJ hll hlV rfl hT hkc hvl hstart hnl hZn hround hskip hst hK
theorem zMs {d : Nat} {bs : List (Nat × AObj)} (h : ∀ p ∈ bs, ∀ r, p.2 ≠ .loop r) : zFa (heap d bs) := fun k r e => by
 unfold heap at e
 rw [zEh] at e
 split at e
 ·rcases zHq (0 + 1 * k) none bs with ⟨v, hv, e2⟩ | e2
  ·rw [e2] at e; exact h _ hv r (Option.some.inj e)
  ·rw [e2] at e; cases e
 ·cases e
end Go.Proofs.Ytmhoookhpcfagaa
namespace Go.Proofs.Ytmhoookhpcfagaa
open Go Go.RowKit
theorem cw_blur {P : Program} {g0 k0 nt d : Nat} {rd : Option Nat} {c : Code} {s : Fs} {lv : List (Nat × Value)} {H : Tr AObj} {n : Nat} {W : List Nat} {df : List ADf} {K : Ex → Fs → Prop} (h : ∃ f, RcM P g0 k0 nt rd s ⟨slots d lv f, H, n, W, df⟩) (k : ∀ g, (∀ t, KpV 0 ((g t).getD undef)) → CW P g0 k0 nt rd c ⟨slots d lv g, H, n, W, df⟩ K) : CW P g0 k0 nt rd c s K := by
 obtain ⟨f, hf⟩ := h
 obtain ⟨g, hg, hr⟩ := rc_blur (P := P) (g0 := g0) (k0 := k0) (nt := nt) (d := d) (rd := rd) (lv := lv) (f := f) (H := H) (n := n) (W := W) (df := df) hf.1
 exact (k g hg).pre hr |>.pre hf
theorem zLc {P : Program} {g0 k0 nt d : Nat} {rd : Option Nat} {s : Fs} {lv : List (Nat × Value)} {H : Tr AObj} {n : Nat} {W : List Nat} {df : List ADf} (h : ∃ f, RcM P g0 k0 nt rd s ⟨slots d lv f, H, n, W, df⟩) : ∃ T', RcM P g0 k0 nt rd s ⟨T', H, n, W, df⟩ := let ⟨_, h⟩ := h; ⟨_, h⟩
noncomputable def inl_eall : Ct Try.prog 0 := Ct.inl (tbOf mixed []) mixed [] 67 Try.f67 Try.func67 (bodyOf Try.f67) (by kernel_rfl)
noncomputable def tbEd : Tb Try.prog 0 := tbOf mixed [inl_eall]
end Go.Proofs.Ytmhoookhpcfagaa
namespace Go.Proofs.Ytmhoookhpcfagaa
open Go Go.RowKit
def nop (x : RcX) : Bool := !decide (x.t = 41)
def fromO (l : List RcX) : Nat → Nat
 | 0 => 0
 | i + 1 => if h : i < l.length then (if l[i].t = 41 then i + 1 else fromO l i) else fromO l i
theorem zGu (l : List RcX) : ∀ i, fromO l i ≤ i
 | 0 => Nat.le_refl _
 | i + 1 => by
  have := zGu l i
  unfold fromO
  split
  ·split
   ·omega
   ·omega
  ·omega
def outO (l : List RcX) (i : Nat) : List RcX := (l.take (fromO l i)).filter nop
theorem zFu (l : List RcX) : ∀ i, i ≤ l.length → (l.take i).filter nop = outO l i ++ (l.drop (fromO l i)).take (i - fromO l i)
 | 0, _ => by simp [outO, fromO]
 | i + 1, h => by
  have hi : i < l.length := by omega
  have ih := zFu l i (by omega)
  have hle := zGu l i
  rw [List.take_succ_eq_append_getElem hi, List.filter_append]
  by_cases h41 : l[i].t = 41
  ·have e : fromO l (i + 1) = i + 1 := by rw [fromO, dif_pos hi, if_pos h41]
   unfold outO
   rw [e, List.take_succ_eq_append_getElem hi, List.filter_append, Nat.sub_self, List.take_zero, List.append_nil]
  ·have e : fromO l (i + 1) = fromO l i := by rw [fromO, dif_pos hi, if_neg h41]
   have e2 : outO l (i + 1) = outO l i := by unfold outO; rw [e]
   have hn : [l[i]].filter nop = [l[i]] := by simp [nop, h41]
   rw [e, e2, ih, hn, List.append_assoc, show i + 1 - fromO l i = (i - fromO l i) + 1 by omega, List.take_succ_eq_append_getElem (by rw [List.length_drop]; omega)]
   congr 2
   simp only [List.getElem_drop]
   congr 2; omega
theorem outO_step (l : List RcX) (i : Nat) (hi : i < l.length) (h41 : l[i].t = 41) : fromO l (i + 1) = i + 1 ∧ outO l (i + 1) = outO l i ++ (l.drop (fromO l i)).take (i - fromO l i) := by
 have e : fromO l (i + 1) = i + 1 := by rw [fromO, dif_pos hi, if_pos h41]
 refine ⟨e, ?_⟩
 rw [← zFu l i (Nat.le_of_lt hi)]
 unfold outO
 rw [e, List.take_succ_eq_append_getElem hi, List.filter_append]
 simp [nop, h41]
theorem outO_skip (l : List RcX) (i : Nat) (hi : i < l.length) (h41 : l[i].t ≠ 41) : fromO l (i + 1) = fromO l i ∧ outO l (i + 1) = outO l i := by
 have e : fromO l (i + 1) = fromO l i := by rw [fromO, dif_pos hi, if_neg h41]
 exact ⟨e, by unfold outO; rw [e]⟩
theorem outO_end (l : List RcX) : l.filter nop = outO l l.length ++ l.drop (fromO l l.length) := by
 have := zFu l l.length (Nat.le_refl _)
 rw [List.take_length, List.take_of_length_le (l := l.drop _) (by rw [List.length_drop]; omega)] at this
 exact this
end Go.Proofs.Ytmhoookhpcfagaa
namespace Go.Proofs.Ytmhoookhpcfagaa
open Go Go.RowKit
noncomputable def tbTk : Tb Try.prog 0 := tbOf mixed []
abbrev trR (l : List RcX) : Value := treeV 5 l.length (l.flatMap layR.g)
abbrev trQ (l : List QuX) : Value := treeV 3 l.length (l.flatMap layQ.g)
theorem zCk {α : Type} (L : Lay α) {z : Nat} {a b : List α} (h : treeV z a.length (a.flatMap L.g) = treeV z b.length (b.flatMap L.g)) : a = b := by
 simp only [treeV, Value.func.injEq, Fn.via.injEq, Array.mk.injEq, true_and, and_true] at h
 exact L.flat_inj _ _ h.2
theorem zCb {α : Type} (L : Lay α) {l : List α} {i : Nat} (h : i < l.length) : ((l.flatMap L.g).drop ((i : Int).toNat * L.k)).take L.k = L.g l[i] := by
 rw [Int.toNat_natCast]; exact (zMk L.g L.k L.len l i h).2
theorem zIf {α : Type} (L : Lay α) (l : List α) (a b : Nat) : ((l.flatMap L.g).drop (a * L.k)).take (b * L.k) = ((l.drop a).take b).flatMap L.g := by
 rw [zHm L.g L.k L.len]
 generalize l.drop a = q
 induction b generalizing q with
 | zero => simp
 | succ b ih =>
  cases q with
  | nil => simp
  | cons x q => rw [List.take_succ_cons, List.flatMap_cons, List.flatMap_cons, Nat.add_mul, Nat.one_mul, Nat.add_comm, List.take_append, L.len, List.take_of_length_le (by rw [L.len]; omega), Nat.add_sub_cancel_left, ih]
theorem zNx {α : Type} {g : α → List Value} (h : ∀ x, oneL (g x) = true) (l : List α) : oneL (l.flatMap g) = true := by
 unfold oneL at h ⊢
 rw [List.all_eq_true]
 intro v hv
 obtain ⟨x, _, hx⟩ := List.mem_flatMap.1 hv
 exact List.all_eq_true.1 (h x) v hx
theorem zOq (l : List RcX) (n : Int) (hl : l.length ≤ 9223372036854775807) : ∃ r, FnS Try.prog 0 54 [trR l, .int .i64 n] .e 0 r ∧ ∃ H m wr, r = .ret (.bool (l.any (bigR n))) H m wr := by
 refine zMl mixed tbTk [] Try.func54 (c := bodyOf Try.f54) (by kernel_rfl) ?_
 refine zEy (fun (i : Nat) f => ⟨slots 6 [(0, trR l), (1, .int .i64 n), (5, .int .i64 (i : Nat))] f, heap 0 [], 0, [], []⟩) (fun i => l.length - i) (fun i => i ≤ l.length ∧ l.any (bigR n) = (l.drop i).any (bigR n)) 0 ⟨Nat.zero_le _, rfl⟩ (rcq [] ⟨⟨_, rfl, zAf 8 rfl⟩, ⟨_, rfl, .int _ _⟩, ⟨_, rfl, .int _ _⟩, trivial⟩ trivial .nil) ?_
 rintro i f ⟨hi, heq⟩
 refine zEg tbTk [] 0 _ none mixed _ _ _ ?_
 refine ifK (fun h1 => ?_) (fun h1 => ?_)
 ·have h1 : i < l.length := by have := of_decide_eq_true h1; omega
  have hst : (l.drop i).any (bigR n) = (bigR n l[i] || (l.drop (i + 1)).any (bigR n)) := by rw [List.drop_eq_getElem_cons h1]; rfl
  rw [hst] at heq
  refine ifK (fun _ => ?_) (fun h2 => absurd h2 (by simp [inI]; omega))
  refine Exists.intro l[i].n (Exists.intro l[i].t (Exists.intro l[i].c (Exists.intro l[i].ttl (Exists.intro l[i].d (And.intro (zCb layR h1) ?_)))))
  refine ifK (fun h2 => ?_) (fun h2 => ?_)
  ·have e : l.any (bigR n) = true := by rw [heq]; unfold bigR; rw [h2]; rfl
   refine And.intro rfl (zFg (rcq [] (d := 6) (d2 := 0) (lv := [(4, .bool true)]) (bs := []) (W := []) (m := 0) (df := []) ⟨⟨_, rfl, zFe 8 rfl⟩, trivial⟩ trivial .nil) (fun f => ?_))
   rw [e]; exact ⟨_, _, _, rfl⟩
  ·refine ifK (fun _ => ?_) (fun h3 => absurd h3 (by simp [inI]; omega))
   refine Exists.intro l[i].n (Exists.intro l[i].t (Exists.intro l[i].c (Exists.intro l[i].ttl (Exists.intro l[i].d (And.intro (zCb layR h1) ?_)))))
   refine ifK (fun h3 => ?_) (fun h3 => ?_)
   ·have e : l.any (bigR n) = true := by rw [heq]; unfold bigR; rw [h3]; simp
    refine And.intro rfl (zFg (rcq [] (d := 6) (d2 := 0) (lv := [(4, .bool true)]) (bs := []) (W := []) (m := 0) (df := []) ⟨⟨_, rfl, zFe 8 rfl⟩, trivial⟩ trivial .nil) (fun f => ?_))
    rw [e]; exact ⟨_, _, _, rfl⟩
   ·refine ⟨i + 1, ⟨h1, ?_⟩, by omega, rcq [] ⟨⟨_, rfl, zAf 8 rfl⟩, ⟨_, rfl, .int _ _⟩, zBd rfl (by rw [wrapN (by omega) (by omega)]; omega), trivial⟩ trivial .nil⟩
    rw [heq]; unfold bigR; rw [h2, h3]; rfl
 ·have h1 : ¬ i < l.length := by have := of_decide_eq_false h1; omega
  have e : l.any (bigR n) = false := by rw [heq, List.drop_eq_nil_of_le (by omega)]; rfl
  refine And.intro rfl (zFg (rcq [] (d := 6) (d2 := 0) (lv := []) (bs := []) (W := []) (m := 0) (df := []) trivial trivial .nil) (fun f => ?_))
  rw [e]; exact ⟨_, _, _, rfl⟩
noncomputable def zMe : Ct Try.prog 0 := CtR.tree 54 (List RcX × Int) (fun x => [trR x.1, .int .i64 x.2]) (fun x => x.1.length ≤ 9223372036854775807) (fun x => .bool (x.1.any (bigR x.2))) (fun a b h => by simp only [List.cons.injEq, Value.int.injEq, true_and, and_true] at h; exact Prod.ext (zCk layR h.1) h.2) (fun _ => rfl)
 (fun x hl => by obtain ⟨r, hF, H, m, wr, rfl⟩ := zOq x.1 x.2 hl; exact ⟨_, _, _, _, hF, .one _ _ (.plain _ rfl)⟩)
structure MsT where
 id : Int
 fl : Int
 q : List QuX
 an : List RcX
 ns : List RcX
 ar : List RcX
def MsT.cs (m : MsT) : List Value := [.int .i64 m.id, .int .i64 m.fl, trQ m.q, trR m.an, trR m.ns, trR m.ar]
def MsT.v (m : MsT) : Value := .agg #[.int .i64 m.id, .int .i64 m.fl, trQ m.q, trR m.an, trR m.ns, trR m.ar]
theorem MsT.v_inj {m m' : MsT} (h : m.v = m'.v) : m = m' := by
 obtain ⟨id, fl, q, an, ns, ar⟩ := m
 obtain ⟨id', fl', q', an', ns', ar'⟩ := m'
 simp only [MsT.v, Value.agg.injEq, Array.mk.injEq, List.cons.injEq, Value.int.injEq, true_and, and_true] at h
 obtain ⟨rfl, rfl, h1, h2, h3, h4⟩ := h
 rw [zCk layQ h1, zCk layR h2, zCk layR h3, zCk layR h4]
def MsT.fit (m : MsT) (k : Nat) : Prop := m.q.length ≤ k ∧ m.an.length ≤ k ∧ m.ns.length ≤ k ∧ m.ar.length ≤ k
def MsT.len (m : MsT) : Int := IntKind.i64.wrap (IntKind.i64.wrap (IntKind.i64.wrap ((m.q.length : Int) + (m.an.length : Int)) + (m.ns.length : Int)) + (m.ar.length : Int))
def MsT.big (m : MsT) (n y : Int) : Bool := decide (m.len > n) || (m.q.any (bigQ y) || (m.an.any (bigR y) || (m.ns.any (bigR y) || m.ar.any (bigR y))))
noncomputable def tbTk2 : Tb Try.prog 0 := tbOf mixed [zMe]
theorem bigMs_tr (m : MsT) (n y : Int) (hf : m.fit 9223372036854775807) : ∃ r, FnS Try.prog 0 28 [m.v, .int .i64 n, .int .i64 y] .e 0 r ∧ ∃ H k wr, r = .ret (.bool (m.big n y)) H k wr := by
 obtain ⟨id, fl, q, an, ns, ar⟩ := m
 obtain ⟨f1, f2, f3, f4⟩ := hf
 have f1 : q.length ≤ 9223372036854775807 := f1
 refine zMl mixed tbTk2 [] Try.func28 (c := bodyOf Try.f28) (by kernel_rfl) ?_
 unfold MsT.big
 refine ifK (fun g => ?_) (fun g => ?_)
 ·have e : decide (MsT.len ⟨id, fl, q, an, ns, ar⟩ > n) = true := g
  rw [e]; exact ⟨_, _, _, rfl⟩
 have e0 : decide (MsT.len ⟨id, fl, q, an, ns, ar⟩ > n) = false := g
 rw [e0, Bool.false_or]
 refine zEy (fun (i : Nat) f => ⟨slots 6 [(2, .int .i64 y), (3, .pointer (some ⟨0, 0, none⟩)), (7, .int .i64 (i : Nat))] f, heap 1 [(0, .cells (MsT.cs ⟨id, fl, q, an, ns, ar⟩) 25)], 1, [], []⟩) (fun i => q.length - i) (fun i => i ≤ q.length ∧ q.any (bigQ y) = (q.drop i).any (bigQ y)) 0 ⟨Nat.zero_le _, rfl⟩
  (rcq [0] ⟨⟨_, rfl, .int _ _⟩, ⟨_, rfl, .ptr _ _ _ rfl⟩, ⟨_, rfl, .int _ _⟩, trivial⟩ ⟨⟨by decide, _, rfl, RO.clos rfl⟩, trivial⟩ .nil) ?_
 rintro i f ⟨hi, heq⟩
 refine zEg tbTk2 [] 0 _ none mixed _ _ _ ?_
 refine ifK (fun h1 => ?_) (fun h1 => ?_)
 ·have h1 : i < q.length := by have h1 : ((i : Nat) : Int) < (q.length : Int) := of_decide_eq_true h1; omega
  have hst : (q.drop i).any (bigQ y) = (bigQ y q[i] || (q.drop (i + 1)).any (bigQ y)) := by rw [List.drop_eq_getElem_cons h1]; rfl
  rw [hst] at heq
  refine ifK (fun _ => ?_) (fun h2 => absurd h2 (by simp [inI]; omega))
  refine Exists.intro q[i].n (Exists.intro q[i].t (Exists.intro q[i].c (And.intro (zCb layQ h1) ?_)))
  refine ifK (fun h2 => ?_) (fun h2 => ?_)
  ·have e : q.any (bigQ y) = true := by rw [heq]; unfold bigQ; rw [h2]; rfl
   refine And.intro rfl (zFg (rcq [] (d := 6) (d2 := 0) (lv := [(6, .bool true)]) (bs := []) (W := []) (m := 0) (df := []) ⟨⟨_, rfl, zFe 8 rfl⟩, trivial⟩ trivial .nil) (fun f => ?_))
   rw [e]; exact ⟨_, _, _, rfl⟩
  ·refine ⟨i + 1, ⟨h1, ?_⟩, by show q.length - (i + 1) < q.length - i; omega, rcq [0] ⟨⟨_, rfl, .int _ _⟩, ⟨_, rfl, .ptr _ _ _ rfl⟩, zBd rfl (by rw [wrapN (by omega) (by omega)]; omega), trivial⟩ ⟨⟨by decide, _, rfl, RO.clos rfl⟩, trivial⟩ .nil⟩
   rw [heq]; unfold bigQ; rw [h2]; rfl
 ·have h1 : ¬ i < q.length := fun e => absurd (show ((i : Nat) : Int) < (q.length : Int) by omega) (of_decide_eq_false h1)
  have e : q.any (bigQ y) = false := by rw [heq, List.drop_eq_nil_of_le (by omega)]; rfl
  rw [e, Bool.false_or]
  refine And.intro rfl (zFg (rcq [0] (d := 6) (d2 := 1) (lv := [(2, .int .i64 y), (3, .pointer (some ⟨0, 0, none⟩))]) (bs := [(0, .cells (MsT.cs ⟨id, fl, q, an, ns, ar⟩) 25)]) (W := []) (m := 1) (df := []) ⟨⟨_, rfl, .int _ _⟩, ⟨_, rfl, .ptr _ _ _ rfl⟩, trivial⟩ ⟨⟨by decide, _, rfl, RO.clos rfl⟩, trivial⟩ .nil) (fun f => ?_))
  refine Exists.intro (an, y) (And.intro ⟨rfl, f2⟩ ?_)
  refine ifK (fun g => ?_) (fun g => ?_)
  ·have e : an.any (bigR y) = true := g
   rw [e]; exact ⟨_, _, _, rfl⟩
  have e : an.any (bigR y) = false := g
  rw [e, Bool.false_or]
  refine Exists.intro (ns, y) (And.intro ⟨rfl, f3⟩ ?_)
  refine ifK (fun g => ?_) (fun g => ?_)
  ·have e : ns.any (bigR y) = true := g
   rw [e]; exact ⟨_, _, _, rfl⟩
  have e : ns.any (bigR y) = false := g
  rw [e, Bool.false_or]
  refine Exists.intro (ar, y) (And.intro ⟨rfl, f4⟩ ?_)
  exact ⟨_, _, _, rfl⟩
noncomputable def ct_bigMsT : Ct Try.prog 0 := CtR.tree 28 (MsT × Int × Int) (fun x => [x.1.v, .int .i64 x.2.1, .int .i64 x.2.2]) (fun x => x.1.fit 9223372036854775807) (fun x => .bool (x.1.big x.2.1 x.2.2)) (fun a b h => by simp only [List.cons.injEq, Value.int.injEq, true_and, and_true] at h; exact Prod.ext (MsT.v_inj h.1) (Prod.ext h.2.1 h.2.2)) (fun _ => rfl)
 (fun x hf => by obtain ⟨r, hF, H, k, wr, rfl⟩ := bigMs_tr x.1 x.2.1 x.2.2 hf; exact ⟨_, _, _, _, hF, .one _ _ (.plain _ rfl)⟩)
end Go.Proofs.Ytmhoookhpcfagaa
namespace Go.Proofs.Ytmhoookhpcfagaa
open Go Go.RowKit
end Go.Proofs.Ytmhoookhpcfagaa
namespace Go.Proofs.Ytmhoookhpcfagaa
open Go Go.RowKit
def woT (l : List RcX) (o : List RcX) (fr : Nat) : Tr AObj := match o with
 | [] => heap 4 [(0, .cells [trR l] 23), (1, .cells [.slice none 0 0] 23), (2, .cells [.int .i64 (fr : Int)] 3), (3, .cells [trR l] 23), (4, .defs)]
 | x :: o => heap 4 [(0, .cells [trR l] 23), (1, .cells [.slice (some ⟨6, 0, none⟩) (o.length + 1) U] 23), (2, .cells [.int .i64 (fr : Int)] 3), (3, .cells [trR l] 23), (4, .defs), (6, .cells ((x :: o).flatMap layR.g) 41)]
def woM (o : List RcX) : Nat := match o with
 | [] => 6
 | _ :: _ => 7
theorem zGg (l o : List RcX) (fr : Nat) : zFa (woT l o fr) := by
 cases o <;>
 ·refine zMs fun p hp r e => ?_
  simp only [List.mem_cons, List.not_mem_nil, or_false] at hp
  rcases hp with rfl | rfl | rfl | rfl | rfl | rfl <;> cases e
theorem zPl (l : List RcX) (hl : l.length ≤ 1000000000) : ∃ r, FnS Try.prog 0 39 [trR l] .e 0 r ∧ ∃ v H m wr, r = .ret v H m wr ∧ Frz Try.prog 0 H v (trR (l.filter nop)) := by
 refine zMl mixed tbEd [] Try.func39 (c := bodyOf Try.f39) (by kernel_rfl) ?_
 refine cw_blur (rcq [0, 1, 2, 3] (d := 5) (d2 := 3) (lv := [(1, .pointer (some ⟨0, 0, none⟩)), (3, .pointer (some ⟨1, 0, none⟩)), (4, .pointer (some ⟨2, 0, none⟩)), (7, .func (.func 90) #[] #[.pointer (some ⟨3, 0, none⟩)])]) (bs := [(0, .cells [trR l] 23), (1, .cells [.slice none 0 0] 23), (2, .cells [.int .i64 0] 3), (3, .cells [trR l] 23)]) (W := []) (m := 4) (df := []) ⟨⟨_, rfl, .ptr _ _ _ rfl⟩, ⟨_, rfl, .ptr _ _ _ rfl⟩, ⟨_, rfl, .ptr _ _ _ rfl⟩, ⟨_, rfl, .func _ _ _ _ _ rfl .nil (.cons _ _ _ _ (.ptr _ _ _ rfl) .nil)⟩, trivial⟩ ⟨⟨by decide, _, rfl, RO.clos rfl⟩, bpo rfl, bpo rfl, ⟨by decide, _, rfl, RO.clos rfl⟩, trivial⟩ .nil) (fun g hg => ?_)
 refine cw_rangeE 4 5 6 rfl rfl l 3 (trR l) 23 [1, 2] (fun i => woT l (outO l i) (fromO l i)) (fun i => woM (outO l i)) l.length none rfl rfl rfl (by decide) (by omega) (by decide) (slots_kp ?_ fun t => (hg t).mono (Nat.zero_le _)) rfl (.inr (.inr rfl)) ?_ (fun i _ => zGg _ _ _) ?_ ?_ ?_ rfl ?_
 ·intro p hp
  simp only [List.mem_cons, List.not_mem_nil, or_false] at hp
  rcases hp with rfl | rfl | rfl | rfl
  ·exact KpV.ptr (by decide)
  ·exact KpV.ptr (by decide)
  ·exact KpV.ptr (by decide)
  ·exact KpV.fn (by simp) (by simp only [List.mem_cons, List.not_mem_nil, or_false]; rintro v rfl; exact KpV.ptr (by decide))
 ·refine zLc (d := 5) (lv := []) (n := 6) (H := heap 4 [(0, .cells [trR l] 23), (1, .cells [.slice none 0 0] 23), (2, .cells [.int .i64 0] 3), (3, .cells [trR l] 23), (4, .defs)]) ?_
  exact rcq [] trivial ⟨⟨by decide, _, rfl, RO.clos rfl⟩, bpo rfl, bpo rfl, ⟨by decide, _, rfl, RO.clos rfl⟩, ⟨by decide, _, rfl, .defs⟩, trivial⟩ .nil
 ·intro i _
  show 6 ≤ woM (outO l i)
  cases outO l i <;> simp [woM]
 ·intro i h him h41
  obtain ⟨e1, e2⟩ := outO_step l i h h41
  have hfr := zGu l i
  show RoundS Try.prog 6 _ 5 _ _ _ _ _ i _ (woT l (outO l i) (fromO l i)) (woM (outO l i)) .normal (woT l (outO l (i + 1)) (fromO l (i + 1))) (woM (outO l (i + 1)))
  rw [e1, e2]
  refine ⟨_, rfl, ?_⟩
  have ho : (outO l i).length ≤ 1000000000 := by unfold outO; exact Nat.le_trans (List.length_filter_le _ _) (by rw [List.length_take]; omega)
  generalize fromO l i = fr at hfr ⊢
  generalize outO l i = o at ho ⊢
  have hz : (Try.prog.types[41]).size = 5 := by kernel_rfl
  have hby : (Try.prog.types[41]).bytes ≤ 100 := by decide +kernel
  have hwr : [Value.int .i64 (IntKind.i64.wrap ((i : Int) + 1))] = [Value.int .i64 ((i + 1 : Nat) : Int)] := by rw [wrapN (by omega) (by omega)]; rfl
  have hpl2 : ((l.drop fr).take (i - fr)).length = i - fr := by rw [List.length_take, List.length_drop]; omega
  cases o with
  | nil =>
   refine zEg tbEd [] 6 _ (some 5) mixed _ _ _ ?_
   refine ⟨rfl, zGg l [] fr, ?_⟩
   refine zEg tbEd [] 6 _ (some 5) mixed _ _ _ ?_
   refine And.intro (by kernel_rfl) ?_
   refine And.intro (by simp only [inLH, Bool.and_eq_true, decide_eq_true_eq]; and_intros <;> omega) ?_
   refine Exists.intro (i - fr) (Exists.intro (((l.drop fr).take (i - fr)).flatMap layR.g) (And.intro ⟨by omega, zIf layR l _ _⟩ ?_))
   refine ifK (fun h0 => ?_) (fun h0 => ?_)
   ·have hif : i - fr = 0 := Nat.eq_of_beq_eq_true h0
    have hp0 : [] ++ (l.drop fr).take (i - fr) = ([] : List RcX) := by rw [hif]; simp
    rw [hp0]
    refine ⟨rfl, zLc (d := 5) (lv := []) (n := 6) (H := heap 4 [(0, .cells [trR l] 23), (1, .cells [.slice none 0 0] 23), (2, .cells [.int .i64 ((i + 1 : Nat) : Int)] 3), (3, .cells [trR l] 23), (4, .defs)]) ?_⟩
    exact zFh [] rfl rfl rfl (fun l e => by cases e; decide) (by decide) (by decide) rfl rfl (wr_of rfl) trivial ⟨⟨by decide, _, rfl, RO.clos rfl⟩, bpo rfl, ⟨by decide, _, rfl, zPe hwr rfl⟩, ⟨by decide, _, rfl, RO.clos rfl⟩, ⟨by decide, _, rfl, .defs⟩, trivial⟩ .nil
   ·have hif : i - fr ≠ 0 := fun e => by rw [e] at h0; simp at h0
    refine And.intro (by simp only [Bool.and_eq_true, decide_eq_true_eq]; have := Nat.mul_le_mul_right (Try.prog.types[41]).bytes (show i - fr ≤ 1000000000 by omega); and_intros <;> omega) ?_
    rw [List.nil_append]
    cases hp : (l.drop fr).take (i - fr) with
    | nil => rw [hp] at hpl2; simp at hpl2; omega
    | cons y ys =>
     rw [hp] at hpl2
     have hln : i - fr = ys.length + 1 := by simp at hpl2; omega
     refine ⟨rfl, zLc (d := 5) (lv := []) (n := 7) (H := heap 4 [(0, .cells [trR l] 23), (1, .cells [.slice (some ⟨6, 0, none⟩) (ys.length + 1) U] 23), (2, .cells [.int .i64 ((i + 1 : Nat) : Int)] 3), (3, .cells [trR l] 23), (4, .defs), (6, .cells ((y :: ys).flatMap layR.g) 41)]) ?_⟩
     exact zFh [6] rfl rfl rfl (fun l e => by cases e; decide) (by decide) (by decide) rfl rfl (wr_of rfl) trivial ⟨⟨by decide, _, rfl, RO.clos rfl⟩, ⟨by decide, _, rfl, by rw [hln]; exact zKb rfl⟩, ⟨by decide, _, rfl, zPe hwr rfl⟩, ⟨by decide, _, rfl, RO.clos rfl⟩, ⟨by decide, _, rfl, .defs⟩, bpo (zAj layR.g layR.plain (y :: ys)), trivial⟩ .nil
  | cons x o =>
   refine zEg tbEd [] 6 _ (some 5) mixed _ _ _ ?_
   refine ⟨rfl, zGg l (x :: o) fr, ?_⟩
   refine zEg tbEd [] 6 _ (some 5) mixed _ _ _ ?_
   refine And.intro (by kernel_rfl) ?_
   refine And.intro (by simp only [inLH, Bool.and_eq_true, decide_eq_true_eq]; and_intros <;> omega) ?_
   refine Exists.intro (i - fr) (Exists.intro (((l.drop fr).take (i - fr)).flatMap layR.g) (And.intro ⟨by omega, zIf layR l _ _⟩ ?_))
   refine ifK (fun h0 => ?_) (fun h0 => ?_)
   ·have hif : i - fr = 0 := Nat.eq_of_beq_eq_true h0
    have hp0 : (x :: o) ++ (l.drop fr).take (i - fr) = x :: o := by rw [hif]; simp
    rw [hp0]
    refine ⟨rfl, zLc (d := 5) (lv := []) (n := 7) (H := heap 4 [(0, .cells [trR l] 23), (1, .cells [.slice (some ⟨6, 0, none⟩) (o.length + 1) U] 23), (2, .cells [.int .i64 ((i + 1 : Nat) : Int)] 3), (3, .cells [trR l] 23), (4, .defs), (6, .cells ((x :: o).flatMap layR.g) 41)]) ?_⟩
    exact zFh [6] rfl rfl rfl (fun l e => by cases e; decide) (by decide) (by decide) rfl rfl (wr_of rfl) trivial ⟨⟨by decide, _, rfl, RO.clos rfl⟩, ⟨by decide, _, rfl, zKb rfl⟩, ⟨by decide, _, rfl, zPe hwr rfl⟩, ⟨by decide, _, rfl, RO.clos rfl⟩, ⟨by decide, _, rfl, .defs⟩, bpo (zAj layR.g layR.plain (x :: o)), trivial⟩ .nil
   ·have hif : i - fr ≠ 0 := fun e => by rw [e] at h0; simp at h0
    have hol : (x :: o).length ≤ 1000000000 := ho
    have hlen : ((x :: o).flatMap layR.g).length = (o.length + 1) * 5 := zAa layR.g 5 layR.len (x :: o)
    have hlen2 : (((l.drop fr).take (i - fr)).flatMap layR.g).length = (i - fr) * 5 := by rw [zAa layR.g 5 layR.len, hpl2]
    refine And.intro ?_ ?_
    ·simp only [Bool.and_eq_true, decide_eq_true_eq]
     have hol : o.length + 1 ≤ 1000000000 := hol
     have := Nat.mul_le_mul (show o.length + 1 + (i - fr) ≤ 2000000000 by omega) hby
     refine ⟨⟨⟨⟨⟨⟨rfl, rfl⟩, Nat.ble_eq_true_of_le ?_⟩, zNx (fun _ => rfl) _⟩, ?_⟩, ?_⟩, Nat.ble_eq_true_of_le ?_⟩
     ·rw [hz, hlen]; exact Nat.le_refl _
     ·omega
     ·omega
     ·rw [hz, hlen, hlen2]; omega
    have hnew : (((x :: o).flatMap layR.g).take ((o.length + 1) * (Try.prog.types[41]).size) ++ ((l.drop fr).take (i - fr)).flatMap layR.g) = (x :: (o ++ (l.drop fr).take (i - fr))).flatMap layR.g := by
     rw [hz, List.take_of_length_le (by rw [hlen]; exact Nat.le_refl _), ← List.flatMap_append]; rfl
    have hn2 : o.length + 1 + (i - fr) = (o ++ (l.drop fr).take (i - fr)).length + 1 := by rw [List.length_append, hpl2]; omega
    refine ⟨rfl, zLc (d := 5) (lv := []) (n := 7) (H := heap 4 [(0, .cells [trR l] 23), (1, .cells [.slice (some ⟨6, 0, none⟩) ((o ++ (l.drop fr).take (i - fr)).length + 1) U] 23), (2, .cells [.int .i64 ((i + 1 : Nat) : Int)] 3), (3, .cells [trR l] 23), (4, .defs), (6, .cells ((x :: (o ++ (l.drop fr).take (i - fr))).flatMap layR.g) 41)]) ?_⟩
    exact zFh [7] rfl rfl rfl (fun l e => by cases e; decide) (by decide) (by decide) rfl rfl (wr_of rfl) trivial ⟨⟨by decide, _, rfl, RO.clos rfl⟩, ⟨by decide, _, rfl, by rw [hn2]; exact zKb rfl⟩, ⟨by decide, _, rfl, zPe hwr rfl⟩, ⟨by decide, _, rfl, RO.clos rfl⟩, ⟨by decide, _, rfl, .defs⟩, ⟨by decide, _, rfl, zPe hnew (zAj layR.g layR.plain _)⟩, trivial⟩ .nil
 ·intro i h him h41
  obtain ⟨e1, e2⟩ := outO_skip l i h h41
  simp only [e1, e2, and_self]
 ·have hend := outO_end l
  have hfr := zGu l l.length
  have ho : (outO l l.length).length ≤ 1000000000 := by unfold outO; exact Nat.le_trans (List.length_filter_le _ _) (by rw [List.length_take]; omega)
  have hz : (Try.prog.types[41]).size = 5 := by kernel_rfl
  have hz' : (Try.prog.info? 41).map (·.size) = some 5 := by kernel_rfl
  have hby : (Try.prog.types[41]).bytes ≤ 100 := by decide +kernel
  have hn : l.length - fromO l l.length = (l.drop (fromO l l.length)).length := by rw [List.length_drop]
  have hpt : ((l.flatMap layR.g).drop (fromO l l.length * 5)).take ((l.length - fromO l l.length) * 5) = (l.drop (fromO l l.length)).flatMap layR.g := by
   rw [show (5 : Nat) = layR.k from rfl, zIf layR, List.take_of_length_le (by rw [List.length_drop]; omega)]
  generalize outO l l.length = o at hend ho ⊢
  generalize fromO l l.length = fr at hend hfr hn hpt ⊢
  cases o with
  | nil =>
   refine And.intro (by kernel_rfl) ?_
   refine And.intro (by simp only [inLH, Bool.and_eq_true, decide_eq_true_eq]; and_intros <;> omega) ?_
   refine Exists.intro (l.length - fr) (Exists.intro ((l.drop fr).flatMap layR.g) (And.intro ⟨by omega, hpt⟩ ?_))
   refine ifK (fun h0 => ?_) (fun h0 => ?_)
   ·have hif : l.length - fr = 0 := Nat.eq_of_beq_eq_true h0
    refine ⟨_, _, _, _, rfl, ?_⟩
    rw [hend, show l.drop fr = [] from List.drop_eq_nil_of_le (by omega)]
    exact .one _ _ (.nil 5)
   ·refine And.intro (by simp only [Bool.and_eq_true, decide_eq_true_eq]; have := Nat.mul_le_mul_right (Try.prog.types[41]).bytes (show l.length - fr ≤ 1000000000 by omega); and_intros <;> omega) ?_
    refine ⟨_, _, _, _, rfl, ?_⟩
    rw [hend, List.nil_append, show trR (l.drop fr) = treeV 5 (l.length - fr) ((l.drop fr).flatMap layR.g) by rw [hn]]
    exact .one _ _ (zEw layR (l.drop fr) (by decide) rfl hz' rfl hn)
  | cons x o =>
   have hol : (x :: o).length ≤ 1000000000 := ho
   have hlen : ((x :: o).flatMap layR.g).length = (o.length + 1) * 5 := zAa layR.g 5 layR.len (x :: o)
   have hlen2 : ((l.drop fr).flatMap layR.g).length = (l.length - fr) * 5 := by rw [zAa layR.g 5 layR.len, hn]
   refine And.intro (by kernel_rfl) ?_
   refine And.intro (by simp only [inLH, Bool.and_eq_true, decide_eq_true_eq]; and_intros <;> omega) ?_
   refine Exists.intro (l.length - fr) (Exists.intro ((l.drop fr).flatMap layR.g) (And.intro ⟨by omega, hpt⟩ ?_))
   refine ifK (fun h0 => ?_) (fun h0 => ?_)
   ·have hif : l.length - fr = 0 := Nat.eq_of_beq_eq_true h0
    refine ⟨_, _, _, _, rfl, ?_⟩
    rw [hend, show l.drop fr = [] from List.drop_eq_nil_of_le (by omega), List.append_nil]
    exact .one _ _ (zEw layR (x :: o) (by decide) rfl hz' rfl rfl)
   ·have hif : l.length - fr ≠ 0 := fun e => by rw [e] at h0; simp at h0
    refine And.intro ?_ ?_
    ·simp only [Bool.and_eq_true, decide_eq_true_eq]
     have hol : o.length + 1 ≤ 1000000000 := hol
     have := Nat.mul_le_mul (show o.length + 1 + (l.length - fr) ≤ 2000000000 by omega) hby
     refine ⟨⟨⟨⟨⟨⟨rfl, rfl⟩, Nat.ble_eq_true_of_le ?_⟩, zNx (fun _ => rfl) _⟩, ?_⟩, ?_⟩, Nat.ble_eq_true_of_le ?_⟩
     ·rw [hz, hlen]; exact Nat.le_refl _
     ·omega
     ·omega
     ·rw [hz, hlen, hlen2]; omega
    have hnew : (((x :: o).flatMap layR.g).take ((o.length + 1) * (Try.prog.types[41]).size) ++ (l.drop fr).flatMap layR.g) = ((x :: o) ++ l.drop fr).flatMap layR.g := by
     rw [hz, List.take_of_length_le (by rw [hlen]; exact Nat.le_refl _), ← List.flatMap_append]
    have hn2 : o.length + 1 + (l.length - fr) = ((x :: o) ++ l.drop fr).length := by rw [List.length_append, ← hn]; rfl
    refine ⟨_, _, _, _, rfl, ?_⟩
    rw [hend, show trR ((x :: o) ++ l.drop fr) = treeV 5 (o.length + 1 + (l.length - fr)) (((x :: o) ++ l.drop fr).flatMap layR.g) by rw [hn2]]
    exact .one _ _ (zEw layR ((x :: o) ++ l.drop fr) (by decide) rfl hz' hnew hn2)
noncomputable def zMf : Ct Try.prog 0 := CtR.tree 39 (List RcX) (fun l => [trR l]) (fun l => l.length ≤ 1000000000) (fun l => trR (l.filter nop)) (fun a b h => by simp only [List.cons.injEq, and_true] at h; exact zCk layR h) (fun _ => rfl)
 (fun l hl => by obtain ⟨r, hF, v, H, m, wr, rfl, hz⟩ := zPl l hl; exact ⟨_, _, _, _, hF, hz⟩)
end Go.Proofs.Ytmhoookhpcfagaa
namespace Go.Proofs.Ytmhoookhpcfagaa
open Go Go.RowKit
def MsT.strip (m : MsT) : MsT := ⟨m.id, m.fl, m.q, m.an.filter nop, m.ns.filter nop, m.ar.filter nop⟩
noncomputable def tbEt4 : Tb Try.prog 0 := tbOf mixed [zMf]
theorem strip_tr (m : MsT) (hf : m.fit 1000000) : ∃ r, FnS Try.prog 0 19 [m.v] .e 0 r ∧ ∃ v H k wr, r = .ret v H k wr ∧ Frz Try.prog 0 H v m.strip.v := by
 obtain ⟨f1, f2, f3, f4⟩ := hf
 have hq' : (Try.prog.info? 56).map (·.size) = some 3 := by kernel_rfl
 have hby : (Try.prog.types[56]).bytes ≤ 100 := by decide +kernel
 refine zMl mixed tbEt4 [] Try.func19 (c := bodyOf Try.f19) (by kernel_rfl) ?_
 refine ifK (fun h0 => ?_) (fun h0 => ?_)
 ·have h0 : m.q = [] := List.eq_nil_of_length_eq_zero (Nat.eq_of_beq_eq_true h0)
  refine And.intro (by kernel_rfl) ?_
  refine Exists.intro m.an (And.intro ⟨rfl, by show m.an.length ≤ _; omega⟩ ?_)
  refine Exists.intro m.ns (And.intro ⟨rfl, by show m.ns.length ≤ _; omega⟩ ?_)
  refine Exists.intro m.ar (And.intro ⟨rfl, by show m.ar.length ≤ _; omega⟩ ?_)
  refine ⟨_, _, _, _, rfl, ?_⟩
  rw [show m.strip = ⟨m.id, m.fl, [], m.an.filter nop, m.ns.filter nop, m.ar.filter nop⟩ by unfold MsT.strip; rw [h0]]
  exact .agg _ _ (.cons _ _ _ _ (.one _ _ (.plain _ rfl)) (.cons _ _ _ _ (.one _ _ (.plain _ rfl)) (.cons _ _ _ _ (.one _ _ (.nil 3)) (.cons _ _ _ _ (.one _ _ (.deep _ _ _ _ _ _ trivial)) (.cons _ _ _ _ (.one _ _ (.deep _ _ _ _ _ _ trivial)) (.cons _ _ _ _ (.one _ _ (.deep _ _ _ _ _ _ trivial)) .nil))))))
 ·refine And.intro (by simp only [Bool.and_eq_true, decide_eq_true_eq]; have := Nat.mul_le_mul f1 hby; and_intros <;> omega) ?_
  refine And.intro (by kernel_rfl) ?_
  refine Exists.intro m.an (And.intro ⟨rfl, by show m.an.length ≤ _; omega⟩ ?_)
  refine Exists.intro m.ns (And.intro ⟨rfl, by show m.ns.length ≤ _; omega⟩ ?_)
  refine Exists.intro m.ar (And.intro ⟨rfl, by show m.ar.length ≤ _; omega⟩ ?_)
  refine ⟨_, _, _, _, rfl, ?_⟩
  exact .agg _ _ (.cons _ _ _ _ (.one _ _ (.plain _ rfl)) (.cons _ _ _ _ (.one _ _ (.plain _ rfl)) (.cons _ _ _ _ (.one _ _ (zEw layQ m.q (by decide) rfl hq' rfl rfl)) (.cons _ _ _ _ (.one _ _ (.deep _ _ _ _ _ _ trivial)) (.cons _ _ _ _ (.one _ _ (.deep _ _ _ _ _ _ trivial)) (.cons _ _ _ _ (.one _ _ (.deep _ _ _ _ _ _ trivial)) .nil))))))
theorem ms1_inj {a b : MsT} (h : [a.v] = [b.v]) : a = b := by simp only [List.cons.injEq, and_true] at h; exact MsT.v_inj h
noncomputable def ct_stripT : Ct Try.prog 0 := CtR.tree 19 MsT (fun m => [m.v]) (fun m => m.fit 1000000) (fun m => m.strip.v) (fun _ _ h => ms1_inj h) (fun _ => rfl)
 (fun m hf => by obtain ⟨r, hF, v, H, k, wr, rfl, hz⟩ := strip_tr m hf; exact ⟨_, _, _, _, hF, hz⟩)
def MsT.same (a b : MsT) : Bool := (a.id == b.id) && ((a.fl == b.fl) && (decide (a.q = b.q) && (decide (a.an = b.an) && (decide (a.ns = b.ns) && decide (a.ar = b.ar)))))
theorem MsT.strip_fit {m : MsT} {k : Nat} (h : m.fit k) : m.strip.fit k := ⟨h.1, Nat.le_trans (List.length_filter_le _ _) h.2.1, Nat.le_trans (List.length_filter_le _ _) h.2.2.1, Nat.le_trans (List.length_filter_le _ _) h.2.2.2⟩
end Go.Proofs.Ytmhoookhpcfagaa
namespace Go.Proofs.Ytmhoookhpcfagaa
open Go Go.RowKit
end Go.Proofs.Ytmhoookhpcfagaa
namespace Go.Proofs.Ytmhoookhpcfagaa
open Go Go.RowKit
def MsL.fit (m : MsL) : Prop := m.q.l.length ≤ 9223372036854775807 ∧ m.an.l.length ≤ 9223372036854775807 ∧ m.ns.l.length ≤ 9223372036854775807 ∧ m.ar.l.length ≤ 9223372036854775807
end Go.Proofs.Ytmhoookhpcfagaa
