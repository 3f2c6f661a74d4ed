/- DERIVED. Texts put together: N1, N4, D1, Mp1, N2, N3, D2, D3, D4, D5, D5b, D6, E1, E2, E3, E4P, F1, F2, F3, F4P, F5, R1, R2, R3, R4, Ms1, Tk1, Ms2, Ms3. -/
import Derived.Test.YtblhnenhonfpnaaZ12
import Derived.Test.YtblhnenhonfpnaaZ13
import Derived.Test.YtblhnenhonfpnaaZ18
set_option maxRecDepth 1000000
set_option maxHeartbeats 32000000
namespace Go.Proofs.Ytblhnenhonfpnaa
open Go Go.RowKit
def bs (s : ByteArray) : Bs := s.data.toList
theorem str_bs (s : ByteArray) : str (bs s) = .string s := by simp [str, bs]
def shortB (s : ByteArray) : Bool := s.data.size.ble 1000000000
theorem zIs {s : ByteArray} (h : shortB s = true) : (bs s).length ≤ 1000000000 := by unfold bs; rw [Array.length_toList]; exact Nat.le_of_ble_eq_true h
def Ct.str1 (f : FuncId) (out : ByteArray → Value) (hp : ∀ s, plainV 8 (out s) = true) (ok : ∀ s w, (bs s).length ≤ 1000000000 → Calls Try.prog f #[.string s] w fun e w' => e = .returned (out s) ∧ Below w.heap.size w w') : Ct Try.prog 0 where
 f := f
 res l H n := match l with | [.string s] => bif shortB s then .ret (out s) H n [] else .bad "long" [] | _ => .bad "arguments" []
 ok l H n := by
  split
  ·rename_i s
   cases hs : shortB s with
   | false => trivial
   | true => exact zGt (fun w => ok s w (zIs hs)) rfl (hp s) H n
  ·trivial
 ck l H n K := match l with | [.string s] => shortB s = true ∧ K (.ret (out s) H n []) | _ => False
 imp l H n K h := by
  split at h
  ·obtain ⟨h1, h2⟩ := h
   simp only [h1, cond_true]; exact h2
  ·exact h.elim
def Ct.str2 (f : FuncId) (out : ByteArray → ByteArray → Value) (hp : ∀ s t, plainV 8 (out s t) = true) (ok : ∀ s t w, (bs s).length ≤ 1000000000 → (bs t).length ≤ 1000000000 → Calls Try.prog f #[.string s, .string t] w fun e w' => e = .returned (out s t) ∧ Below w.heap.size w w') : Ct Try.prog 0 where
 f := f
 res l H n := match l with | [.string s, .string t] => bif shortB s && shortB t then .ret (out s t) H n [] else .bad "long" [] | _ => .bad "arguments" []
 ok l H n := by
  split
  ·rename_i s t
   cases hs : (shortB s && shortB t) with
   | false => trivial
   | true =>
    simp only [Bool.and_eq_true] at hs
    exact zGt (fun w => ok s t w (zIs hs.1) (zIs hs.2)) rfl (hp s t) H n
  ·trivial
 ck l H n K := match l with | [.string s, .string t] => (shortB s && shortB t) = true ∧ K (.ret (out s t) H n []) | _ => False
 imp l H n K h := by
  split at h
  ·obtain ⟨h1, h2⟩ := h
   simp only [h1, cond_true]; exact h2
  ·exact h.elim
def zCa (a b : Bs) : Bool := decide ((labels a).2 = 0 ∧ (labels b).2 = 0 ∧ lower a = lower b)
def ct_check : Ct Try.prog 0 := Ct.str1 38 (fun s => .int .i64 (labels (bs s)).2) (fun _ => rfl) (fun s w hs => by have := zBe (bs s) w hs; rwa [str_bs] at this)
end Go.Proofs.Ytblhnenhonfpnaa
namespace Go.Proofs.Ytblhnenhonfpnaa
open Go Go.RowKit
def ct_same : Ct Try.prog 0 := Ct.str2 43 (fun s t => .bool (zCa (bs s) (bs t))) (fun _ _ => rfl) (fun s t w hs ht => by have := zMt (bs s) (bs t) w hs ht; rwa [str_bs, str_bs] at this)
end Go.Proofs.Ytblhnenhonfpnaa
namespace Go.Proofs.Ytblhnenhonfpnaa
open Go Go.RowKit
theorem wrapN {x : Int} (h1 : 0 ≤ x) (h2 : x < 9223372036854775808) : IntKind.i64.wrap x = x := zQx (by omega) h2
def txtF : Nat → Bs → Bool
 | 0, _ => false
 | _ + 1, [] => true
 | n + 1, c :: r => decide (c.toNat ≤ r.length) && txtF n (r.drop c.toNat)
def txt (l : Bs) : Bool := txtF (l.length + 1) l
def texts (l : Bs) : Bool := !l.isEmpty && txt l
end Go.Proofs.Ytblhnenhonfpnaa
namespace Go.Proofs.Ytblhnenhonfpnaa
open Go Go.RowKit
def encK (l : List ByteArray) : List MapEntry := l.map fun s => { key := .string s, val := .agg #[], born := 0 }
theorem zOm (em : Bool) (s : ByteArray) : keyOk Try.prog 9 em (.string s) = true := by cases em <;> kernel_rfl
theorem zOf (a b : ByteArray) (v : Value) (k : Nat) : eqK Try.prog 9 (.string a) { key := .string b, val := v, born := k } = some (a.data == b.data) := by kernel_rfl
theorem zOc (a b : ByteArray) : (a.data == b.data) = decide (a = b) := by
 by_cases h : a = b
 ·subst h; simp
 ·rw [decide_eq_false h]
  cases he : a.data == b.data
  ·rfl
  ·exact absurd (congrArg ByteArray.mk (eq_of_beq he)) h
theorem zGi (l : List ByteArray) : zAb (encK l) = true := by
 unfold zAb encK
 rw [List.all_map]
 exact List.all_eq_true.2 fun _ _ => rfl
theorem zGa {s : ByteArray} : ∀ {l : List ByteArray} (i : Nat), s ∉ l → zCh Try.prog 9 (.string s) (encK l) i = some none
 | [], _, _ => rfl
 | t :: l, i, h => by
  have h1 : s ≠ t := fun e => h (by rw [e]; exact List.mem_cons_self ..)
  show zCh _ _ _ (_ :: encK l) i = _
  unfold zCh
  rw [zOf, zOc, decide_eq_false h1]
  exact zGa (i + 1) (fun hm => h (List.mem_cons_of_mem _ hm))
theorem zJp {s : ByteArray} : ∀ {l : List ByteArray} (i : Nat), l.Nodup → s ∈ l → ∃ j, zCh Try.prog 9 (.string s) (encK l) i = some (some (j, .agg #[]))
 | t :: l, i, hn, h => by
  rw [List.nodup_cons] at hn
  show ∃ j, zCh _ _ _ (_ :: encK l) i = _
  unfold zCh
  rw [zOf, zOc]
  by_cases he : s = t
  ·subst he
   refine ⟨i, ?_⟩
   have hall : ∀ x ∈ encK l, eqK Try.prog 9 (.string s) x = some false := fun x hx => by
    obtain ⟨p, hp, rfl⟩ := List.mem_map.1 hx
    have hne : s ≠ p := fun e => hn.1 (by rw [e]; exact hp)
    rw [zOf, zOc, decide_eq_false hne]
   have key : ∀ (p : MapEntry → Bool), (∀ x ∈ encK l, p x = true) → (encK l).all p = true := fun p hp => List.all_eq_true.2 hp
   simp only [decide_true]
   rw [key]
   ·rfl
   ·intro x hx
    rw [hall x hx]
  ·rw [decide_eq_false he]
   exact zJp (i + 1) hn.2 ((List.mem_cons.1 h).resolve_left he)
theorem metS_rm {σ : Nat → Nat → Prop} (l : List ByteArray) : RM σ (encK l) (encK l) := by
 induction l with
 | nil => exact .nil
 | cons x l ih => exact .cons _ _ _ _ (.string _) (.agg _ _ .nil) ih
theorem met_ro {σ : Nat → Nat → Prop} (l : List ByteArray) (k : Nat) : RO Try.prog σ (.map (encK l) k) (.map (encK l) k) := RO.map _ _ _ (metS_rm _)
def hasS (l : List ByteArray) (d : ByteArray) : Bool := l.any fun t => decide (t = d)
theorem zQc {l : List ByteArray} {d : ByteArray} : hasS l d = true ↔ d ∈ l := by
 unfold hasS
 rw [List.any_eq_true]
 constructor
 ·rintro ⟨x, hx, h⟩
  have := of_decide_eq_true h
  rw [← this]; exact hx
 ·exact fun h => ⟨d, h, decide_eq_true rfl⟩
section
variable {ev : Operand → Value} {G : Gh} {n : Nat} {o : Oper}
theorem aop_metY {t e : TypeId} {x y : Operand} {r ck : Nat} {l : List ByteArray} {s : ByteArray} (ho : o.op = .lookup t x y true) (hx : ev x = .map (some r)) (hy : ev y = .string s) (hu : Try.prog.underlying t = some (.map 9 e)) (hG : G r = some (.map (encK l) ck)) (hn : l.Nodup) (h : s ∈ l) :
  aop Try.prog o ev G n = .val (.tuple #[.agg #[], .bool true]) [] 0 := by
 obtain ⟨j, hj⟩ := zJp 0 hn h
 unfold aop aop0 aStr
 simp only [ho, ORes.or]
 unfold zEo
 simp only [hu, hx, hy, hG, Try.underlying9, zGi, zOm, Bool.and_self, cond_true, hj]
theorem aop_metN {t e : TypeId} {x y : Operand} {r ck : Nat} {l : List ByteArray} {s : ByteArray} (ho : o.op = .lookup t x y true) (hx : ev x = .map (some r)) (hy : ev y = .string s) (hu : Try.prog.underlying t = some (.map 9 e)) (hz : ((Try.prog.info? e).bind (·.zero)) = some (.agg #[])) (hG : G r = some (.map (encK l) ck)) (h : s ∉ l) :
  aop Try.prog o ev G n = .val (.tuple #[.agg #[], .bool false]) [] 0 := by
 obtain ⟨i, h1, h2⟩ := Option.bind_eq_some_iff.1 hz
 unfold aop aop0 aStr
 simp only [ho, ORes.or]
 unfold zEo
 simp only [hu, hx, hy, hG, Try.underlying9, zGi, zOm, Bool.and_self, cond_true, zGa 0 h, h1, h2]
 rfl
theorem aop_meet {t e : TypeId} {x y z : Operand} {r ck : Nat} {l : List ByteArray} {s : ByteArray} (ho : o.op = .mapUpdate t x y z) (hx : ev x = .map (some r)) (hy : ev y = .string s) (hz : ev z = .agg #[]) (hu : Try.prog.underlying t = some (.map 9 e)) (hG : G r = some (.map (encK l) ck)) (h : s ∉ l) :
  aop Try.prog o ev G n = .val undef [(r, some (.map (encK (l ++ [s])) (ck + 1)))] 0 := by
 unfold aop aop0 aStr
 simp only [ho, ORes.or]
 unfold zEp
 simp only [hu, hx, hy, hz, hG, Try.underlying9, zGi, zOm, Bool.and_self, cond_true, zGa 0 h]
 unfold encK
 rw [List.map_append]; rfl
end
end Go.Proofs.Ytblhnenhonfpnaa
namespace Go.Proofs.Ytblhnenhonfpnaa
open Go Go.RowKit
end Go.Proofs.Ytblhnenhonfpnaa
namespace Go.Proofs.Ytblhnenhonfpnaa
open Go Go.RowKit
end Go.Proofs.Ytblhnenhonfpnaa
namespace Go.Proofs.Ytblhnenhonfpnaa
open Go Go.RowKit
def part (n : Int) (name rest : Bool) : List Value := [.int .i64 n, .bool name, .bool rest]
end Go.Proofs.Ytblhnenhonfpnaa
namespace Go.Proofs.Ytblhnenhonfpnaa
open Go Go.RowKit
def zposF : Nat → Bs → Option Nat
 | 0, _ => none
 | _ + 1, [] => none
 | n + 1, c :: r => if c.toNat = 0 then some 0 else (zposF n (r.drop c.toNat)).map (· + (c.toNat + 1))
def zpos (l : Bs) : Option Nat := zposF (l.length + 1) l
def front (l : Bs) : Option Nat := match zpos l with | some k => if (labels (l.take (k + 1))).2 = 0 then some (k + 1) else none | none => none
end Go.Proofs.Ytblhnenhonfpnaa
namespace Go.Proofs.Ytblhnenhonfpnaa
open Go Go.RowKit
end Go.Proofs.Ytblhnenhonfpnaa
namespace Go.Proofs.Ytblhnenhonfpnaa
open Go Go.RowKit
inductive Pt where
 | nm
 | rest
 | sz (k : Nat)
def Pt.cell : Pt → List Value
 | .nm => part 0 true false
 | .rest => part 0 false true
 | .sz k => part k false false
def Pt.isName : Pt → Bool
 | .nm => true
 | _ => false
def Pt.cut (p : Pt) (l : Bs) : Option Nat :=
 match p with
 | .nm => front l
 | .rest => if texts l then some l.length else none
 | .sz k => if k ≤ l.length then some k else none
def cuts : List Pt → Bs → Option (List (Bs × Bool) × Bs)
 | [], l => some ([], l)
 | p :: ps, l => match p.cut l with
  | none => none
  | some n => (cuts ps (l.drop n)).map fun x => ((l.take n, p.isName) :: x.1, x.2)
end Go.Proofs.Ytblhnenhonfpnaa
namespace Go.Proofs.Ytblhnenhonfpnaa
open Go Go.RowKit
end Go.Proofs.Ytblhnenhonfpnaa
namespace Go.Proofs.Ytblhnenhonfpnaa
open Go Go.RowKit
end Go.Proofs.Ytblhnenhonfpnaa
namespace Go.Proofs.Ytblhnenhonfpnaa
open Go Go.RowKit
def ptsT (t : Int) : Option (List Pt) :=
 bif t == 1 then some [.sz 4] else bif t == 28 then some [.sz 16] else bif t == 2 then some [.nm] else bif t == 5 then some [.nm] else bif t == 12 then some [.nm] else bif t == 15 then some [.sz 2, .nm]
 else bif t == 6 then some [.nm, .nm, .sz 20] else bif t == 16 then some [.rest] else none
end Go.Proofs.Ytblhnenhonfpnaa
namespace Go.Proofs.Ytblhnenhonfpnaa
open Go Go.RowKit
def outT (t : Int) (l : Bs) : Option (List (Bs × Bool) × Bs) := match ptsT t with | some ps => cuts ps l | none => none
def outP (t : Int) (l : Bs) : List (Bs × Bool) := match outT t l with | some x => x.1 | none => []
def outR (t : Int) (l : Bs) : Bs := match outT t l with | some x => x.2 | none => []
end Go.Proofs.Ytblhnenhonfpnaa
namespace Go.Proofs.Ytblhnenhonfpnaa
open Go Go.RowKit
def lowP (p : Bs × Bool) : Bs := if p.2 then lower p.1 else p.1
def lowerD (t : Int) (l : Bs) : Bs := bif (ptsT t).isSome then (bif (outT t l).isSome && (outR t l).isEmpty then (outP t l).flatMap lowP else l) else l
end Go.Proofs.Ytblhnenhonfpnaa
namespace Go.Proofs.Ytblhnenhonfpnaa
open Go Go.RowKit
end Go.Proofs.Ytblhnenhonfpnaa
namespace Go.Proofs.Ytblhnenhonfpnaa
open Go Go.RowKit
end Go.Proofs.Ytblhnenhonfpnaa
namespace Go.Proofs.Ytblhnenhonfpnaa
open Go Go.RowKit
inductive Pr where
 | nm
 | rest
 | all
 | sz (k : Nat)
def Pr.i : Pr → Int
 | .nm => -1
 | .rest => -2
 | .all => -3
 | .sz k => (k : Int)
def Pr.cut (p : Pr) (l : Bs) : Option Nat :=
 match p with
 | .nm => front l
 | .rest => if texts l then some l.length else none
 | .all => some l.length
 | .sz k => if k ≤ l.length then some k else none
end Go.Proofs.Ytblhnenhonfpnaa
namespace Go.Proofs.Ytblhnenhonfpnaa
open Go Go.RowKit
def Pt.pr : Pt → Pr
 | .nm => .nm
 | .rest => .rest
 | .sz k => .sz k
end Go.Proofs.Ytblhnenhonfpnaa
namespace Go.Proofs.Ytblhnenhonfpnaa
open Go Go.RowKit
def Pt.small : Pt → Bool
 | .nm => true
 | .rest => false
 | .sz k => k.ble 255
end Go.Proofs.Ytblhnenhonfpnaa
namespace Go.Proofs.Ytblhnenhonfpnaa
open Go Go.RowKit
def zs (x : Int × Bs) : Value := str x.2
end Go.Proofs.Ytblhnenhonfpnaa
namespace Go.Proofs.Ytblhnenhonfpnaa
open Go Go.RowKit
def Ct.sh {X : Type} (f : FuncId) (mt : List Value → Option X) (args : X → List Value) (hm : ∀ l x, mt l = some x → l = args x) (pre : X → Bool) (out : X → Value) (ha : ∀ x, plainL (args x) = true) (hp : ∀ x, plainV 8 (out x) = true) (ok : ∀ x, pre x = true → ∃ H m wr, FnS Try.prog 0 f (args x) .e 0 (.ret (out x) H m wr)) : Ct Try.prog 0 where
 f := f
 res l H n := match mt l with | some x => bif pre x then .ret (out x) H n [] else .bad "not such" [] | none => .bad "arguments" []
 ok l H n := by
  cases h : mt l with
  | none => trivial
  | some x =>
   cases hx : pre x with
   | false => simp only [hx]; trivial
   | true =>
    simp only [hx, cond_true]
    rw [hm l x h]
    obtain ⟨_, _, _, hF⟩ := ok x hx
    exact zCu hF (ha x) (hp x) H n
 ck l H n K := match mt l with | some x => pre x = true ∧ K (.ret (out x) H n []) | none => False
 imp l H n K h := by
  cases hm : mt l with
  | none => rw [hm] at h; exact h.elim
  | some x =>
   rw [hm] at h
   obtain ⟨h1, h2⟩ := h
   simp only [h1, cond_true]; exact h2
def Ct.i2 (f : FuncId) (out : Int → Int → Value) (hp : ∀ x y, plainV 8 (out x y) = true) (ok : ∀ x y, ∃ H m wr, FnS Try.prog 0 f [.int .i64 x, .int .i64 y] .e 0 (.ret (out x y) H m wr)) : Ct Try.prog 0 where
 f := f
 res l H n := match l with | [.int .i64 x, .int .i64 y] => .ret (out x y) H n [] | _ => .bad "arguments" []
 ok l H n := by
  split
  ·rename_i x y
   obtain ⟨_, _, _, h⟩ := ok x y
   exact zCu h rfl (hp x y) H n
  ·trivial
 ck l H n K := match l with | [.int .i64 x, .int .i64 y] => K (.ret (out x y) H n []) | _ => False
 imp l H n K h := by
  split at h
  ·exact h
  ·exact h.elim
def Ct.i1 (f : FuncId) (out : Int → Value) (hp : ∀ x, plainV 8 (out x) = true) (ok : ∀ x, ∃ H m wr, FnS Try.prog 0 f [.int .i64 x] .e 0 (.ret (out x) H m wr)) : Ct Try.prog 0 where
 f := f
 res l H n := match l with | [.int .i64 x] => .ret (out x) H n [] | _ => .bad "arguments" []
 ok l H n := by
  split
  ·rename_i x
   obtain ⟨_, _, _, h⟩ := ok x
   exact zCu h rfl (hp x) H n
  ·trivial
 ck l H n K := match l with | [.int .i64 x] => K (.ret (out x) H n []) | _ => False
 imp l H n K h := by
  split at h
  ·exact h
  ·exact h.elim
structure RcX where
 n : ByteArray
 t : Int
 c : Int
 ttl : Int
 d : ByteArray
def RcX.v (x : RcX) : Value := .agg #[.string x.n, .int .i64 x.t, .int .i64 x.c, .int .i64 x.ttl, .string x.d]
def RcX.ok (x : RcX) : Bool := x.n.data.size.ble 100000000 && x.d.data.size.ble 100000000
end Go.Proofs.Ytblhnenhonfpnaa
namespace Go.Proofs.Ytblhnenhonfpnaa
open Go Go.RowKit
def RcX.low (x : RcX) : RcX := ⟨⟨(lower (bs x.n)).toArray⟩, x.t, x.c, 0, ⟨(lowerD x.t (bs x.d)).toArray⟩⟩
end Go.Proofs.Ytblhnenhonfpnaa
namespace Go.Proofs.Ytblhnenhonfpnaa
open Go Go.RowKit
def RcX.g (x : RcX) : List Value := [.string x.n, .int .i64 x.t, .int .i64 x.c, .int .i64 x.ttl, .string x.d]
def layR : Lay RcX where
 g := RcX.g
 k := 5
 t := 39
 len _ := rfl
 pos := by decide
 plain _ := rfl
 inj x y h := by
  obtain ⟨n, t, c, l, d⟩ := x
  obtain ⟨n', t', c', l', d'⟩ := y
  simp only [RcX.g, List.cons.injEq, Value.string.injEq, Value.int.injEq, true_and, and_true] at h
  obtain ⟨rfl, rfl, rfl, rfl, rfl⟩ := h; rfl
end Go.Proofs.Ytblhnenhonfpnaa
namespace Go.Proofs.Ytblhnenhonfpnaa
open Go Go.RowKit
end Go.Proofs.Ytblhnenhonfpnaa
namespace Go.Proofs.Ytblhnenhonfpnaa
open Go Go.RowKit
deriving instance DecidableEq for RcX
structure QuX where
 n : ByteArray
 t : Int
 c : Int
 deriving DecidableEq
def QuX.v (x : QuX) : Value := .agg #[.string x.n, .int .i64 x.t, .int .i64 x.c]
def QuX.g (x : QuX) : List Value := [.string x.n, .int .i64 x.t, .int .i64 x.c]
structure MsL where
 id : Int
 fl : Int
 q : RdL QuX
 an : RdL RcX
 ns : RdL RcX
 ar : RdL RcX
def MsL.v (m : MsL) : Value := .agg #[.int .i64 m.id, .int .i64 m.fl, m.q.sl, m.an.sl, m.ns.sl, m.ar.sl]
def MsL.own (m : MsL) : MsL := ⟨m.id, m.fl, { m.q with b := 0 }, { m.an with b := 1 }, { m.ns with b := 2 }, { m.ar with b := 3 }⟩
end Go.Proofs.Ytblhnenhonfpnaa
namespace Go.Proofs.Ytblhnenhonfpnaa
open Go Go.RowKit
abbrev trR (l : List RcX) : Value := treeV 5 l.length (l.flatMap layR.g)
structure MsT where
 id : Int
 fl : Int
 q : List QuX
 an : List RcX
 ns : List RcX
 ar : List RcX
def MsT.len (m : MsT) : Int := IntKind.i64.wrap (IntKind.i64.wrap (IntKind.i64.wrap ((m.q.length : Int) + (m.an.length : Int)) + (m.ns.length : Int)) + (m.ar.length : Int))
end Go.Proofs.Ytblhnenhonfpnaa
namespace Go.Proofs.Ytblhnenhonfpnaa
open Go Go.RowKit
end Go.Proofs.Ytblhnenhonfpnaa
namespace Go.Proofs.Ytblhnenhonfpnaa
open Go Go.RowKit
end Go.Proofs.Ytblhnenhonfpnaa
