/- DERIVED. Texts put together: Gt2, Gt3, Gt5, Gt7, Gt6, Gl3, Gl4, Gt4, Gl5, Sp2, Sp3. -/
import Derived.Test.YtblhnenhonfpnaaZ12
import Derived.Test.YtblhnenhonfpnaaZ13
import Derived.Test.YtblhnenhonfpnaaZ20
import Derived.Test.YtblhnenhonfpnaaZ24
import Derived.Test.YtblhnenhonfpnaaZ25
import Derived.Test.YtblhnenhonfpnaaZ30
set_option maxRecDepth 1000000
set_option maxHeartbeats 32000000
namespace Go.Proofs.Ytblhnenhonfpnaa
open Go Go.RowKit
def totR : List RcX → Nat
 | [] => 0
 | x :: l => totR l + (x.n.size + x.d.size)
theorem totR_take {l : List RcX} {i : Nat} (h : i < l.length) : totR (l.take (i + 1)) = totR (l.take i) + (l[i].n.size + l[i].d.size) := by
 induction l generalizing i with
 | nil => cases h
 | cons o l ih =>
  cases i with
  | zero => rfl
  | succ i =>
   have h' : i < l.length := by simpa using h
   have := ih (i := i) h'
   show totR (l.take (i + 1)) + _ = (totR (l.take i) + _) + _
   rw [this]
   show _ = totR (l.take i) + (o.n.size + o.d.size) + ((l[i]'h').n.size + (l[i]'h').d.size)
   omega
theorem totR_pre {l : List RcX} (i : Nat) : totR (l.take i) ≤ totR l := by
 induction l generalizing i with
 | nil => rw [List.take_nil]; exact Nat.le_refl _
 | cons o l ih => cases i with
  | zero => exact Nat.zero_le _
  | succ i => have := ih i; show totR (l.take i) + _ ≤ totR l + _; omega
theorem zQv {x : RcX} : ∀ {l : List RcX}, x ∈ l → x.n.size + x.d.size ≤ totR l
 | y :: l, h => by
  rcases List.mem_cons.1 h with rfl | h
  ·show _ ≤ totR l + _; omega
  ·have := zQv h; show _ ≤ totR l + _; omega
def longR (l : List RcX) (most : Int) : Bool := decide ((l.length : Int) > most) || decide (2000 < totR l)
def fitR (l : List RcX) : Prop := l.length ≤ 9000000000000 ∧ ∀ x ∈ l, (x.n.size ≤ 140737488355328 ∧ x.d.size ≤ 140737488355328) ∧ (Lit.int .i64 x.t).wf = true ∧ (Lit.int .i64 x.c).wf = true
theorem zOq (l : List RcX) (most : Int) (hf : fitR l) : ∃ r, FnS Try.prog 0 10 [trR l, .int .i64 most] .e 0 r ∧ ∃ H m wr, r = .ret (.bool (longR l most)) H m wr := by
 obtain ⟨hl, hb⟩ := hf
 refine zMe mixed tbSt0 [] Try.func10 (c := bodyOf Try.f10) (by kernel_rfl) ?_
 refine zCf (fun (i : Nat) f => ⟨slots 6 [(0, trR l), (1, .int .i64 most), (5, .int .i64 ((totR (l.take i) : Nat) : Int)), (6, .int .i64 (i : Nat))] f, heap 0 [], 0, [], []⟩) (fun i => l.length - i) (fun i => i ≤ l.length ∧ totR (l.take i) ≤ 562949953423312) 0 ⟨Nat.zero_le _, Nat.zero_le _⟩ (rcq [] ⟨⟨_, rfl, zAa 8 rfl⟩, ⟨_, rfl, .int _ _⟩, ⟨_, rfl, .int _ _⟩, ⟨_, rfl, .int _ _⟩, trivial⟩ trivial .nil) ?_
 rintro i f ⟨hi, hs⟩
 have fin : ∀ (h9 : l.length ≤ i ∨ 2000 < totR (l.take i)), decide (((totR (l.take i) : Nat) : Int) > 2000) = decide (2000 < totR l) := fun h9 => by
  have hp := totR_pre (l := l) i
  rcases h9 with h9 | h9
  ·rw [List.take_of_length_le h9]
   by_cases h : 2000 < totR l
   ·rw [decide_eq_true h, decide_eq_true (by omega)]
   ·rw [decide_eq_false h, decide_eq_false (by omega)]
  ·rw [decide_eq_true (show 2000 < totR l by omega), decide_eq_true (by omega)]
 refine zGp tbSt0 [] 0 _ none mixed _ _ _ ?_
 refine ifK (fun h1 => ?_) (fun h1 => ?_)
 ·have h1 : i < l.length := by have h1 : ((i : Nat) : Int) < (l.length : Int) := of_decide_eq_true h1; omega
  refine ifK (fun h2 => ?_) (fun h2 => ?_)
  ·have h2 : totR (l.take i) ≤ 2000 := by have h2 : ((totR (l.take i) : Nat) : Int) ≤ 2000 := of_decide_eq_true h2; omega
   obtain ⟨⟨hx1, hx2⟩, _⟩ := hb l[i] (List.getElem_mem h1)
   have ht := totR_take h1
   refine And.intro (by kernel_rfl) ?_
   refine ifK (fun _ => ?_) (fun h2 => absurd h2 (by simp [inI]; omega))
   refine Exists.intro l[i].n (Exists.intro l[i].t (Exists.intro l[i].c (Exists.intro l[i].ttl (Exists.intro l[i].d (And.intro (zEx layR h1) ?_)))))
   refine ifK (fun _ => ?_) (fun h2 => absurd h2 (by simp [inI]; omega))
   refine Exists.intro l[i].n (Exists.intro l[i].t (Exists.intro l[i].c (Exists.intro l[i].ttl (Exists.intro l[i].d (And.intro (zEx layR h1) ?_)))))
   have hw : IntKind.i64.wrap (IntKind.i64.wrap (((totR (l.take i) : Nat) : Int) + (l[i].n.data.size : Int)) + (l[i].d.data.size : Int)) = ((totR (l.take (i + 1)) : Nat) : Int) := by
    have a1 : l[i].n.data.size ≤ 140737488355328 := hx1
    have a2 : l[i].d.data.size ≤ 140737488355328 := hx2
    have a3 : totR (l.take (i + 1)) = totR (l.take i) + (l[i].n.data.size + l[i].d.data.size) := ht
    have a4 : IntKind.i64.wrap (((totR (l.take i) : Nat) : Int) + (l[i].n.data.size : Int)) = ((totR (l.take i) + l[i].n.data.size : Nat) : Int) := (by rw [wrapN (by omega) (by omega)]; omega)
    rw [a4, wrapN (by omega) (by omega)]; omega
   exact ⟨i + 1, ⟨h1, by show totR (l.take (i + 1)) ≤ _; omega⟩, by show l.length - (i + 1) < l.length - i; omega, rcq [] ⟨⟨_, rfl, zAa 8 rfl⟩, ⟨_, rfl, .int _ _⟩, zAu rfl hw, zAu rfl (by rw [wrapN (by omega) (by omega)]; omega), trivial⟩ trivial .nil⟩
  ·have h2 : 2000 < totR (l.take i) := by have h2 : ¬ ((totR (l.take i) : Nat) : Int) ≤ 2000 := of_decide_eq_false h2; omega
   refine And.intro rfl (zCp (rcq [] (d := 6) (d2 := 0) (lv := [(0, trR l), (1, .int .i64 most), (5, .int .i64 ((totR (l.take i) : Nat) : Int))]) (bs := []) (W := []) (m := 0) (df := []) ⟨⟨_, rfl, zAa 8 rfl⟩, ⟨_, rfl, .int _ _⟩, ⟨_, rfl, .int _ _⟩, trivial⟩ trivial .nil) (fun f => ?_))
   refine ifK (fun h3 => ?_) (fun h3 => ?_)
   ·rw [show longR l most = true by unfold longR; rw [show decide ((l.length : Int) > most) = true from h3]; rfl]
    exact ⟨_, _, _, rfl⟩
   ·rw [show longR l most = decide (((totR (l.take i) : Nat) : Int) > 2000) by unfold longR; rw [show decide ((l.length : Int) > most) = false from h3, fin (.inr h2)]; rfl]
    exact ⟨_, _, _, rfl⟩
 ·have h1 : ¬ i < l.length := by have h1 : ¬ ((i : Nat) : Int) < (l.length : Int) := of_decide_eq_false h1; omega
  refine And.intro rfl (zCp (rcq [] (d := 6) (d2 := 0) (lv := [(0, trR l), (1, .int .i64 most), (5, .int .i64 ((totR (l.take i) : Nat) : Int))]) (bs := []) (W := []) (m := 0) (df := []) ⟨⟨_, rfl, zAa 8 rfl⟩, ⟨_, rfl, .int _ _⟩, ⟨_, rfl, .int _ _⟩, trivial⟩ trivial .nil) (fun f => ?_))
  refine ifK (fun h3 => ?_) (fun h3 => ?_)
  ·rw [show longR l most = true by unfold longR; rw [show decide ((l.length : Int) > most) = true from h3]; rfl]
   exact ⟨_, _, _, rfl⟩
  ·rw [show longR l most = decide (((totR (l.take i) : Nat) : Int) > 2000) by unfold longR; rw [show decide ((l.length : Int) > most) = false from h3, fin (.inl (by omega))]; rfl]
   exact ⟨_, _, _, rfl⟩
noncomputable def zOa : Ct Try.prog 0 := CtR.tree 10 (List RcX × Int) (fun x => [trR x.1, .int .i64 x.2]) (fun x => fitR x.1) (fun x => .bool (longR x.1 x.2)) (fun a b h => by simp only [List.cons.injEq, Value.int.injEq, true_and, and_true] at h; exact Prod.ext (zFv layR h.1) h.2) (fun _ => rfl)
 (fun x hf => by obtain ⟨r, hF, H, m, wr, rfl⟩ := zOq x.1 x.2 hf; exact ⟨_, _, _, _, hF, .one _ _ (.plain _ rfl)⟩)
section
open Go.Joins Go.ChangeShapes Go.WideShapes Go.Deep
variable {H : Type} {enc : TypeId × Value → H} {w : World} {base : Nat} {spare : Nat → Bool} {held : Bool}
theorem trod_iW {n : Nat} {c : Value} {y : DataW H × List MemPlace} (h : DataW.trod enc Try.prog w base spare held n 3 [c] = some y) : ∃ x : Int, c = .int .i64 x ∧ (Lit.int .i64 x).wf = true := by
 obtain ⟨a, e, _, hw⟩ := DataW.trod_int Try.underlying3 h
 simp only [List.cons.injEq, and_true] at e
 exact ⟨a, e, hw⟩
theorem trod_rcQ {n : Nat} {x : RcX} {y : DataW H × List MemPlace} {R : Nat} (h : DataW.trod enc Try.prog w base spare held n 39 (layR.g x) = some y) (hw : ∀ q ∈ y.1.weights Try.prog 39, q ≤ R) : (x.n.size ≤ R ∧ x.d.size ≤ R) ∧ (Lit.int .i64 x.t).wf = true ∧ (Lit.int .i64 x.c).wf = true := by
 have hf := zJq 8 39 [9, 3, 3, 3, 9] n (layR.g x) y (by kernel_rfl) h rfl
 obtain ⟨_, _, h0, w0⟩ := hf 0 _ _ rfl rfl
 obtain ⟨_, _, h1, _⟩ := hf 1 _ _ rfl rfl
 obtain ⟨_, _, h2, _⟩ := hf 2 _ _ rfl rfl
 obtain ⟨_, _, h4, w4⟩ := hf 4 _ _ rfl rfl
 obtain ⟨x0, e0, s0⟩ := trod_sQ h0 (fun q hq => hw q (w0 q hq))
 obtain ⟨x1, e1, s1⟩ := trod_iW h1
 obtain ⟨x2, e2, s2⟩ := trod_iW h2
 obtain ⟨x4, e4, s4⟩ := trod_sQ h4 (fun q hq => hw q (w4 q hq))
 cases e0; cases e1; cases e2; cases e4
 exact ⟨⟨s0, s4⟩, s1, s2⟩
theorem bytes_rT : Try.prog.bytesOf 39 = 56 := by kernel_rfl
theorem open_recsT {r : Reach} {b0 : Nat} {v : Value} {d : DataW H} {p : List MemPlace} (hpos : 0 < w.heap.size) (hv : Value.okWide Try.prog w r b0 22 v) (h : DataW.Trod enc Try.prog w base spare held 22 v d p) (hw : ∀ n ∈ d.weights Try.prog 22, n ≤ reachBytes) :
  ∃ l : List RcX, fitR l ∧ VR (Env.all w) (trR l) v := by
 obtain ⟨n, h⟩ := zEg Try.underlying22 hv h
 have hR : reachBytes = 140737488351232 := by decide
 obtain ⟨y, g, s, hq, e⟩ := zJx layR (fun x => (x.n.size ≤ reachBytes ∧ x.d.size ≤ reachBytes) ∧ (Lit.int .i64 x.t).wf = true ∧ (Lit.int .i64 x.c).wf = true) Try.underlying22 (by kernel_rfl) (fun _ _ _ hy => trod_rc hy) (fun _ x y hy hw' => trod_rcQ hy hw') (zId Try.underlying22 hv) h hpos hw
 have s : y.l.length * 56 ≤ reachBytes := bytes_rT ▸ s
 refine ⟨y.l, ⟨by omega, fun x hx => ?_⟩, zKg layR g e⟩
 have := hq x hx
 exact ⟨⟨by omega, by omega⟩, this.2⟩
end
end Go.Proofs.Ytblhnenhonfpnaa
namespace Go.Proofs.Ytblhnenhonfpnaa
open Go Go.RowKit
theorem zMc : ∀ {a b : List SetX}, a.flatMap gS = b.flatMap gS → a = b
 | [], [], _ => rfl
 | [], y :: b, h => by simp [gS, SetX.cs] at h
 | x :: a, [], h => by simp [gS, SetX.cs] at h
 | x :: a, y :: b, h => by
  rw [List.flatMap_cons, List.flatMap_cons] at h
  obtain ⟨h1, h2⟩ := List.append_inj h (by rw [zMg, zMg])
  have e : x.v = y.v := congrArg (fun l => Value.agg ⟨l⟩) h1
  rw [SetX.v_inj e, zMc h2]
theorem trT_inj {a b : List SetX} (h : trT a = trT b) : a = b := by
 simp only [trT, treeV, Value.func.injEq, Fn.via.injEq, Array.mk.injEq, true_and, and_true] at h
 exact zMc h.2
theorem zEd {l : List SetX} {i : Nat} (h : i < l.length) : ((l.flatMap gS).drop ((i : Int).toNat * 5)).take 5 = gS l[i] := by
 rw [Int.toNat_natCast]; exact (zGc gS 5 zMg l i h).2
end Go.Proofs.Ytblhnenhonfpnaa
namespace Go.Proofs.Ytblhnenhonfpnaa
open Go Go.RowKit
theorem zRf {P : Program} {f : FuncId} {args targs : List Value} {t : Value} {H : Tr AObj} {n : Nat} (ha : FrL P 0 H args targs) (h : ∀ (E : Env) (w : World) (args' : Array Value), VL E targs args'.toList → (∀ b ob, E.fz b = some ob → w.heap[b]? = some ob) → CallsIn Fence.wide 0 P f args' w fun e w' => ∃ x, e = .returned x ∧ Below w.heap.size w w' ∧ ∀ F : Nat → Option Obj, (∀ b, w.heap.size ≤ b → F b = w'.heap[b]?) → DV F t x) : CallOK P 0 f args H n (.ret t H n []) := by
 refine ⟨Grw.refl _ _ _, fun E w args' _ hva hE _ _ => ?_⟩
 let E0 : Env := ⟨fun _ => False, fun _ => 0, fun _ => 0, fun _ => 0, fun _ => 0, fun _ => False, fun b => w.heap[b]?⟩
 have hva0 : VL E0 targs args'.toList := FrPL.vl hE (E2 := E0) (fun _ b ob hb => hE.fz b ob hb) (fun k _ _ _ ob hob => hob) ha hva
 refine (h E0 w args' hva0 (fun b ob hb => hb)).mono fun e w' ⟨x, he, hb, hx⟩ => ?_
 subst he
 obtain ⟨k1, k2⟩ := hr_keep hE hb
 obtain ⟨b1, b2, b3, b4, b5⟩ := hb
 have hlt : ∀ b ob, E.fz b = some ob → b < w.heap.size := fun b ob hb => (Array.getElem?_eq_some_iff.1 (hE.fz b ob hb)).1
 let E1 : Env := { E with fz := fzNew E.fz w.heap.size w' }
 have hx1 : Ext E E1 := ⟨fun _ h => h, fun _ _ => rfl, fun _ _ => rfl, fun _ _ => rfl, fun _ _ => rfl, fun _ _ => Iff.rfl, fun b ob hb => by show (if _ then _ else _) = _; rw [if_pos (hlt b ob hb)]; exact hb⟩
 refine ⟨E1, x, rfl, (hx (fzNew E.fz w.heap.size w') (fun b hb => by show (if _ then _ else _) = _; rw [if_neg (by omega)])).vr, hx1, fun _ => ⟨.inl, fun h => h.resolve_right (by omega)⟩, ⟨k1.lt, k1.dom, fun id o ho => ?_, k1.inj, k1.ro, fun b ob hb => ?_, fun id hi hr => ?_, k1.pos⟩, ⟨hx1, b1, b2, b3, b4, fun b hb _ => b5 b hb, fun id h1 h2 => absurd h2 h1, fun b ob hb => ?_⟩⟩
 ·have hd := hE.live (id := id) (by rw [ho]; simp)
  exact (hE.obj id o ho).mono hx1 hd (b5 _ (hE.lt id hd))
 ·have hb : (if b < w.heap.size then E.fz b else w'.heap[b]?) = some ob := hb
  by_cases hbl : b < w.heap.size
  ·rw [if_pos hbl] at hb; rw [b5 b hbl]; exact hE.fz b ob hb
  ·rw [if_neg hbl] at hb; exact hb
 ·show (if _ then _ else _) = _
  rw [if_pos (hE.lt id (hE.live hi))]; exact hE.fn id hi hr
 ·have hb : (if b < w.heap.size then E.fz b else w'.heap[b]?) = some ob := hb
  by_cases hbl : b < w.heap.size
  ·rw [if_pos hbl] at hb; exact .inl hb
  ·exact .inr (.inl (by omega))
theorem group_okL {l : List RcX} {v : Value} {H : Tr AObj} (hv : LtL layR H v l) (hne : l ≠ []) (hn : l.length ≤ 1000000) (hok : ∀ x ∈ l, okR x) (n : Nat) : CallOK Try.prog 0 12 [v] H n (.ret (trT (grp l)) H n []) := by
 refine zRf (targs := [trR l]) (.cons _ _ _ _ (LtL.frz (by kernel_rfl) hv) .nil) (fun E w args' hva hz => ?_)
 obtain ⟨v', rfl, hv⟩ := zIe hva
 refine (callsIn_wide.2 (setsGroup v' (l.map rcT) w (zSj hz hv hne) (by rw [List.length_map]; exact hn) (fun r hr => by
  obtain ⟨x, hx, rfl⟩ := List.mem_map.1 hr
  obtain ⟨h1, h2, h3⟩ := hok x hx
  exact ⟨by show (bs x.n).length ≤ _; unfold bs; rw [Array.length_toList]; exact h1, h2, h3⟩))).mono ?_
 rintro e w' ⟨vr, vds, rfl, hown, hb⟩
 exact ⟨vr, rfl, hb, fun F hF => zRx (F := F) hF hown⟩
end Go.Proofs.Ytblhnenhonfpnaa
namespace Go.Proofs.Ytblhnenhonfpnaa
open Go Go.RowKit
theorem group_okB {l : List RcX} {v : Value} {H : Tr AObj} (hv : LtL layR H v l) (hn : l.length ≤ 1000000) (hok : ∀ x ∈ l, okR x) (n : Nat) : CallOK Try.prog 0 12 [v] H n (.ret (trT (grp l)) H n []) := by
 by_cases hne : l = []
 ·subst hne
  obtain ⟨r, hF, H', m, wr, rfl⟩ := group_nil
  exact zEq hF (.cons _ _ _ _ (LtL.frz (by kernel_rfl) hv) .nil) (.one _ _ (.nil 5))
 ·exact group_okL hv hne hn hok n
noncomputable def ct_groupB : Ct Try.prog 0 :=
 CtR.ct { f := 12, X := List RcX × Value, pre := fun x a H _ => a = [x.2] ∧ LtL layR H x.2 x.1 ∧ x.1.length ≤ 1000000 ∧ ∀ y ∈ x.1, okR y, out := fun x H n => .ret (trT (grp x.1)) H n [],
          ok := fun x a H n ⟨h1, h2, h4, h5⟩ => by
           subst h1
           exact group_okB h2 h4 h5 n,
          uniq := fun x y a H n ⟨h1, h2, _⟩ ⟨k1, k2, _⟩ => by
           rw [h1] at k1
           obtain ⟨l, v⟩ := x
           obtain ⟨l', v'⟩ := y
           simp only [List.cons.injEq, and_true] at k1
           have k1 : v = v' := k1
           subst k1
           rw [show l = l' from LtL.uniq h2 k2] }
end Go.Proofs.Ytblhnenhonfpnaa
namespace Go.Proofs.Ytblhnenhonfpnaa
open Go Go.RowKit
def layI : Lay Int := ⟨fun x => [.int .i64 x], 1, 3, fun _ => rfl, by decide, fun _ => rfl, fun x y h => by simpa using h⟩
def trI (l : List Int) : Value := treeV 1 l.length (l.flatMap layI.g)
section
open Go.Joins Go.ChangeShapes Go.WideShapes Go.Deep
variable {H : Type} {enc : TypeId × Value → H} {w : World} {base : Nat} {spare : Nat → Bool} {held : Bool}
theorem bytes_iT : Try.prog.bytesOf 3 = 8 := by kernel_rfl
theorem open_intsT {r : Reach} {b0 : Nat} {v : Value} {d : DataW H} {p : List MemPlace} (hpos : 0 < w.heap.size) (hv : Value.okWide Try.prog w r b0 35 v) (h : DataW.Trod enc Try.prog w base spare held 35 v d p) (hw : ∀ n ∈ d.weights Try.prog 35, n ≤ reachBytes) :
  ∃ l : List Int, l.length ≤ 100000000000000 ∧ VR (Env.all w) (trI l) v := by
 obtain ⟨n, h⟩ := zEg Try.underlying35 hv h
 have hR : reachBytes = 140737488351232 := by decide
 obtain ⟨y, g, s, _, e⟩ := zJx layI (fun _ => True) Try.underlying35 (by kernel_rfl) (fun _ cs _ hy => by
  obtain ⟨a, e, _, _⟩ := DataW.trod_int Try.underlying3 hy
  exact ⟨a, e⟩) (fun _ _ _ _ _ => trivial) (zId Try.underlying35 hv) h hpos hw
 have s : y.l.length * 8 ≤ reachBytes := bytes_iT ▸ s
 exact ⟨y.l, by omega, zKg layI g e⟩
end
end Go.Proofs.Ytblhnenhonfpnaa
namespace Go.Proofs.Ytblhnenhonfpnaa
open Go Go.RowKit
theorem zLt (l : Bs) : bs (mkB l) = l := by simp [bs, mkB]
theorem mkB_bs (b : ByteArray) : mkB (bs b) = b := toL_inj (by simp [bs, mkB])
theorem grp_gi {l : List RcX} (hok : ∀ x ∈ l, (labels (bs x.n)).2 = 0) : GI (l.map rcT) (gloop (l.map rcT)) :=
 gloop_gi _ (fun r hr => by obtain ⟨x, hx, rfl⟩ := List.mem_map.1 hr; exact hok x hx)
theorem grp_mem {l : List RcX} (hok : ∀ x ∈ l, (labels (bs x.n)).2 = 0) {s : SetX} (hs : s ∈ grp l) : ∃ st, st ∈ (gloop (l.map rcT)).1 ∧ s = setT st ∧ ∃ x ∈ l, x.n = s.n ∧ x.t = s.t ∧ x.c = s.c := by
 obtain ⟨st, h, rfl⟩ := List.mem_map.1 hs
 obtain ⟨r, hr, h1, h2⟩ := (grp_gi hok).nm st h
 obtain ⟨x, hx, rfl⟩ := List.mem_map.1 hr
 simp only [rkey, skey, Prod.mk.injEq] at h2
 refine ⟨st, h, rfl, x, hx, ?_, h2.2.1, h2.2.2⟩
 show x.n = mkB st.name
 rw [← h1]; exact (mkB_bs _).symm
theorem zMj {l : List RcX} (hok : ∀ x ∈ l, (labels (bs x.n)).2 = 0) (hn : l.length ≤ 40) (ht : ∀ x ∈ l, x.n.size ≤ 2000) {s : SetX} (hs : s ∈ grp l) : s.small := by
 obtain ⟨st, h, rfl, x, hx, h1, _⟩ := grp_mem hok hs
 have hd := zJr _ st h
 rw [List.length_map] at hd
 have := ht x hx
 refine ⟨Nat.ble_eq_true_of_le (by show (setT st).n.size ≤ _; rw [← h1]; omega), ?_⟩
 show (st.data.map mkB).length ≤ _
 rw [List.length_map]; omega
end Go.Proofs.Ytblhnenhonfpnaa
namespace Go.Proofs.Ytblhnenhonfpnaa
open Go Go.RowKit
theorem GI.keys {l : List Rc} {p : List St × (SK → Option Nat)} (g : GI l p) : (p.1.map skey).Nodup := by
 rw [List.nodup_iff_pairwise_ne, List.pairwise_iff_getElem]
 intro i j hi hj hij e
 rw [List.getElem_map, List.getElem_map] at e
 rw [List.length_map] at hi hj
 have a := g.key i _ (List.getElem?_eq_getElem hi)
 have b := g.key j _ (List.getElem?_eq_getElem hj)
 rw [e, b] at a
 have := Option.some.inj a
 omega
theorem GI.of {l : List Rc} {p : List St × (SK → Option Nat)} (g : GI l p) {r : Rc} (hr : r ∈ l) : ∃ s ∈ p.1, skey s = rkey r := by
 obtain ⟨i, hi⟩ := g.all r hr
 obtain ⟨s, hs, hk⟩ := g.is _ _ hi
 exact ⟨s, List.mem_of_getElem? hs, hk⟩
theorem GI.turn {l m : List Rc} {p q : List St × (SK → Option Nat)} (g : GI l p) (h : GI m q) (hlm : ∀ r, r ∈ l ↔ r ∈ m) {s : St} (hs : s ∈ p.1) : ∃ t ∈ q.1, skey t = skey s ∧ t.ttl = s.ttl ∧ s.data.Perm t.data := by
 obtain ⟨r, hr, _, hk⟩ := g.nm s hs
 obtain ⟨t, ht, hkt⟩ := h.of ((hlm r).1 hr)
 have hk : skey t = skey s := hkt.trans hk
 refine ⟨t, ht, hk, ?_, ?_⟩
 ·obtain ⟨⟨a, ha, ka, ea⟩, la⟩ := g.ttl s hs
  obtain ⟨⟨b, hb, kb, eb⟩, lb⟩ := h.ttl t ht
  have h1 := la b ((hlm b).2 hb) (kb.trans hk)
  have h2 := lb a ((hlm a).1 ha) (ka.trans hk.symm)
  omega
 ·refine (List.perm_ext_iff_of_nodup (g.nd s hs).1 (h.nd t ht).1).2 fun d => ?_
  rw [g.mem s hs, h.mem t ht]
  constructor
  ·rintro ⟨r, hr, k, e⟩; exact ⟨r, (hlm r).1 hr, k.trans hk.symm, e⟩
  ·rintro ⟨r, hr, k, e⟩; exact ⟨r, (hlm r).2 hr, k.trans hk, e⟩
theorem GI.many {l m : List Rc} {p q : List St × (SK → Option Nat)} (g : GI l p) (h : GI m q) (hlm : ∀ r, r ∈ l ↔ r ∈ m) : p.1.length = q.1.length := by
 have hp : (p.1.map skey).Perm (q.1.map skey) := (List.perm_ext_iff_of_nodup g.keys h.keys).2 fun k => by
  rw [List.mem_map, List.mem_map]
  constructor
  ·rintro ⟨s, hs, rfl⟩; obtain ⟨t, ht, e, _⟩ := g.turn h hlm hs; exact ⟨t, ht, e⟩
  ·rintro ⟨s, hs, rfl⟩; obtain ⟨t, ht, e, _⟩ := h.turn g (fun r => (hlm r).symm) hs; exact ⟨t, ht, e⟩
 have := hp.length_eq
 rwa [List.length_map, List.length_map] at this
theorem ssL_mkB (l : List Bs) : ssL (l.map mkB) = l := by
 unfold ssL; rw [List.map_map]
 exact (List.map_congr_left fun d _ => zLt d).trans (List.map_id _)
theorem zKy {l m : List RcX} (hok : ∀ x ∈ l, (labels (bs x.n)).2 = 0) (hlm : ∀ x, x ∈ l ↔ x ∈ m) : (grp l).length = (grp m).length ∧ ∀ s ∈ grp l, ∃ t ∈ grp m, s.same t = true ∧ s.ttl = t.ttl := by
 have g := grp_gi hok
 have h := grp_gi (l := m) (fun x hx => hok x ((hlm x).2 hx))
 have hr : ∀ r, r ∈ l.map rcT ↔ r ∈ m.map rcT := fun r => by
  rw [List.mem_map, List.mem_map]
  exact ⟨fun ⟨x, hx, e⟩ => ⟨x, (hlm x).1 hx, e⟩, fun ⟨x, hx, e⟩ => ⟨x, (hlm x).2 hx, e⟩⟩
 refine ⟨by unfold grp; rw [List.length_map, List.length_map]; exact g.many h hr, fun s hs => ?_⟩
 obtain ⟨st, hst, rfl⟩ := List.mem_map.1 hs
 obtain ⟨tt, htt, hk, hl, hd⟩ := g.turn h hr hst
 refine ⟨setT tt, List.mem_map.2 ⟨tt, htt, rfl⟩, ?_, hl.symm⟩
 simp only [skey, Prod.mk.injEq] at hk
 rw [same_iff]
 refine ⟨hk.2.1.symm, hk.2.2.symm, ⟨?_, ?_, ?_⟩, ?_, ?_⟩
 ·show (labels (bs (mkB st.name))).2 = 0
  rw [zLt]; exact g.ok st hst
 ·show (labels (bs (mkB tt.name))).2 = 0
  rw [zLt]; exact h.ok tt htt
 ·show lower (bs (mkB st.name)) = lower (bs (mkB tt.name))
  rw [zLt, zLt]; exact hk.1.symm
 ·show (st.data.map mkB).length = (tt.data.map mkB).length
  rw [List.length_map, List.length_map]; exact hd.length_eq
 ·refine (sortS_iff _ _).2 ?_
  show (ssL (st.data.map mkB)).Perm (ssL (tt.data.map mkB))
  rw [ssL_mkB, ssL_mkB]; exact hd
end Go.Proofs.Ytblhnenhonfpnaa
namespace Go.Proofs.Ytblhnenhonfpnaa
open Go Go.RowKit
def leastX (a : Int) (l : List SetX) : Int := l.foldl (fun m s => minI m s.ttl) a
def leastY : List SetX → Int
 | [] => 0
 | s :: l => leastX s.ttl (s :: l)
theorem least_tr (l : List SetX) (hl : l.length ≤ 1000000000) : ∃ r, FnS Try.prog 0 16 [trT l] .e 0 r ∧ ∃ H m wr, r = .ret (.int .i64 (leastY l)) H m wr := by
 refine zMe mixed tbSt0 [] Try.func16 (c := bodyOf Try.f16) (by kernel_rfl) ?_
 refine ifK (fun g => ?_) (fun g => ?_)
 ·have g : ((l.length : Int) == 0) = true := g
  have e : l = [] := List.eq_nil_of_length_eq_zero (by have := eq_of_beq g; omega)
  subst e
  exact ⟨_, _, _, rfl⟩
 have g : ((l.length : Int) == 0) = false := g
 have h0 : 0 < l.length := Nat.pos_of_ne_zero (fun e => by rw [e] at g; cases g)
 refine ifK (fun _ => ?_) (fun h2 => absurd h2 (by simp [inI]; intro e; subst e; cases h0))
 refine Exists.intro l[0].n (Exists.intro l[0].t (Exists.intro l[0].c (Exists.intro l[0].ttl (Exists.intro (trS l[0].d) (And.intro (zEd h0) ?_)))))
 refine zCf (fun (i : Nat) f => ⟨slots 5 [(3, .int .i64 (leastX l[0].ttl (l.take i))), (13, trT l), (14, .int .i64 (l.length : Nat)), (15, .int .i64 (i : Nat))] f, heap 0 [], 0, [], []⟩) (fun i => l.length - i) (fun i => i ≤ l.length) 0 (Nat.zero_le _) ?_ ?_
 ·exact rcq [] ⟨⟨_, rfl, .int _ _⟩, ⟨_, rfl, zAa 8 rfl⟩, ⟨_, rfl, .int _ _⟩, ⟨_, rfl, .int _ _⟩, trivial⟩ trivial .nil
 intro i f hi
 have hi : i ≤ l.length := hi
 refine zGp tbSt0 [] 0 _ none mixed _ _ _ ?_
 refine ifK (fun h1 => ?_) (fun h1 => ?_)
 ·have h1 : i < l.length := by have h1 : ((i : Nat) : Int) < (l.length : Int) := of_decide_eq_true h1; omega
  refine ifK (fun _ => ?_) (fun h2 => absurd h2 (by simp [inI]; omega))
  refine Exists.intro l[i].n (Exists.intro l[i].t (Exists.intro l[i].c (Exists.intro l[i].ttl (Exists.intro (trS l[i].d) (And.intro (zEd h1) ?_)))))
  have hst : leastX l[0].ttl (l.take (i + 1)) = minI (leastX l[0].ttl (l.take i)) l[i].ttl := by unfold leastX; rw [List.take_succ_eq_append_getElem h1, List.foldl_append]; rfl
  exact ⟨i + 1, h1, by show l.length - (i + 1) < l.length - i; omega, rcq [] ⟨zAu rfl hst.symm, ⟨_, rfl, zAa 8 rfl⟩, ⟨_, rfl, .int _ _⟩, zAu rfl (by rw [wrapN (by omega) (by omega)]; omega), trivial⟩ trivial .nil⟩
 ·have h1 : ¬ i < l.length := by have h1 : ¬ ((i : Nat) : Int) < (l.length : Int) := of_decide_eq_false h1; omega
  have he : leastX l[0].ttl (l.take i) = leastY l := by
   rw [List.take_of_length_le (by omega)]
   cases l with
   | nil => exact absurd h0 (by simp)
   | cons a l => rfl
  exact And.intro rfl (zCp (rcq [] (d := 5) (d2 := 0) (lv := [(3, .int .i64 (leastY l))]) (bs := []) (W := []) (m := 0) (df := []) ⟨⟨_, rfl, (by rw [he]; exact .int _ _)⟩, trivial⟩ trivial .nil) (fun f => ⟨_, _, _, rfl⟩))
noncomputable def ct_leastT : Ct Try.prog 0 := CtR.tree 16 (List SetX) (fun x => [trT x]) (fun x => x.length ≤ 1000000000) (fun x => .int .i64 (leastY x)) (fun a b h => by simp only [List.cons.injEq, and_true] at h; exact trT_inj h) (fun _ => rfl)
 (fun x hl => by obtain ⟨r, hF, H, m, wr, rfl⟩ := least_tr x hl; exact ⟨_, _, _, _, hF, .one _ _ (.plain _ rfl)⟩)
end Go.Proofs.Ytblhnenhonfpnaa
namespace Go.Proofs.Ytblhnenhonfpnaa
open Go Go.RowKit
theorem minI_le (x y : Int) : minI x y ≤ x ∧ minI x y ≤ y ∧ (minI x y = x ∨ minI x y = y) := by
 unfold minI; split <;> omega
theorem zMo : ∀ (l : List SetX) (a : Int), leastX a l ≤ a ∧ (∀ s ∈ l, leastX a l ≤ s.ttl) ∧ (leastX a l = a ∨ ∃ s ∈ l, leastX a l = s.ttl)
 | [], a => ⟨Int.le_refl _, fun s hs => by simp at hs, .inl rfl⟩
 | s :: l, a => by
  obtain ⟨h1, h2, h3⟩ := zMo l (minI a s.ttl)
  obtain ⟨m1, m2, m3⟩ := minI_le a s.ttl
  have e : leastX a (s :: l) = leastX (minI a s.ttl) l := rfl
  rw [e]
  refine ⟨Int.le_trans h1 m1, fun t ht => ?_, ?_⟩
  ·rcases List.mem_cons.1 ht with rfl | ht
   ·exact Int.le_trans h1 m2
   ·exact h2 t ht
  ·rcases h3 with h3 | ⟨t, ht, h3⟩
   ·rcases m3 with m3 | m3
    ·exact .inl (h3.trans m3)
    ·exact .inr ⟨s, List.mem_cons_self .., h3.trans m3⟩
   ·exact .inr ⟨t, List.mem_cons_of_mem _ ht, h3⟩
theorem zMp {l : List SetX} (h : l ≠ []) : (∀ s ∈ l, leastY l ≤ s.ttl) ∧ ∃ s ∈ l, leastY l = s.ttl := by
 cases l with
 | nil => exact absurd rfl h
 | cons a l =>
  obtain ⟨h1, h2, h3⟩ := zMo (a :: l) a.ttl
  exact ⟨h2, h3.elim (fun e => ⟨a, List.mem_cons_self .., e⟩) id⟩
theorem leastY_eq {x y : List SetX} (hl : x.length = y.length) (h1 : ∀ s ∈ x, ∃ t ∈ y, s.ttl = t.ttl) (h2 : ∀ s ∈ y, ∃ t ∈ x, s.ttl = t.ttl) : leastY x = leastY y := by
 by_cases hx : x = []
 ·subst hx
  rw [List.eq_nil_of_length_eq_zero (l := y) (by rw [← hl]; rfl)]
 ·have hy : y ≠ [] := fun e => by subst e; exact hx (List.eq_nil_of_length_eq_zero hl)
  obtain ⟨a1, s, hs, a2⟩ := zMp hx
  obtain ⟨b1, t, ht, b2⟩ := zMp hy
  obtain ⟨s', hs', e1⟩ := h1 s hs
  obtain ⟨t', ht', e2⟩ := h2 t ht
  have := a1 t' ht'
  have := b1 s' hs'
  omega
theorem grp_least {l m : List RcX} (hok : ∀ x ∈ l, (labels (bs x.n)).2 = 0) (hlm : ∀ x, x ∈ l ↔ x ∈ m) : leastY (grp l) = leastY (grp m) := by
 obtain ⟨h1, h2⟩ := zKy hok hlm
 obtain ⟨_, h3⟩ := zKy (l := m) (m := l) (fun x hx => hok x ((hlm x).2 hx)) (fun x => (hlm x).symm)
 exact leastY_eq h1 (fun s hs => by obtain ⟨t, ht, _, e⟩ := h2 s hs; exact ⟨t, ht, e⟩) (fun s hs => by obtain ⟨t, ht, _, e⟩ := h3 s hs; exact ⟨t, ht, e⟩)
end Go.Proofs.Ytblhnenhonfpnaa
namespace Go.Proofs.Ytblhnenhonfpnaa
open Go Go.RowKit
theorem zOp {l : List RcX} (h : longR l 40 = false) : l.length ≤ 40 ∧ ∀ x ∈ l, x.n.size ≤ 2000 ∧ x.d.size ≤ 2000 := by
 unfold longR at h
 obtain ⟨h1, h2⟩ := Bool.or_eq_false_iff.1 h
 have h1 := of_decide_eq_false h1
 have h2 := of_decide_eq_false h2
 exact ⟨by omega, fun x hx => by have := zQv hx; omega⟩
theorem short_of {n : ByteArray} (h : n.size ≤ 2000) : shortB n = true := Nat.ble_eq_true_of_le (by show n.size ≤ _; omega)
theorem zCk (l : List RcX) : (grp l).length ≤ l.length := by
 unfold grp; rw [List.length_map]; exact Nat.le_trans (zMh _).1 (by rw [List.length_map]; exact Nat.le_refl _)
end Go.Proofs.Ytblhnenhonfpnaa
namespace Go.Proofs.Ytblhnenhonfpnaa
open Go Go.RowKit
noncomputable def tbSt9 : Tb Try.prog 0 := tbOf mixed [Ct.yes 11 zKo, zOa, zOb, ct_groupB, zRi, ct_pick, ct_leastT]
theorem own_at {α : Type} (L : Lay α) (l : List α) (i : Nat) (h : i < l.length) {sz : Nat} (hs : sz = L.k) : 0 + ((i : Nat) : Int).toNat * sz + sz ≤ (l.flatMap L.g).length ∧ ((l.flatMap L.g).drop (0 + ((i : Nat) : Int).toNat * sz)).take sz = L.g l[i] := by
 subst hs
 have := RdL.get L [] [] l i h
 rw [List.nil_append, List.append_nil, List.length_nil] at this
 rw [Int.toNat_natCast]; exact this
theorem zQk {α : Type} (L : Lay α) (l : List α) (i : Nat) (h : i < l.length) : 0 + i * L.k + L.k ≤ (l.flatMap L.g).length := by
 have := (own_at L l i h rfl).1
 rw [Int.toNat_natCast] at this; exact this
theorem rec_ty : TyIs Try.prog 39 5 56 (.agg #[.string ⟨#[]⟩, .int .i64 0, .int .i64 0, .int .i64 0, .string ⟨#[]⟩]) := tyIs_of (by kernel_rfl)
theorem mem_swap {α : Type} {m : List α} (p q : Nat) (hp : p < m.length) (hq : q < m.length) (x : α) : x ∈ (m.set p m[q]).set q m[p] ↔ x ∈ m := by
 have hg : ∀ (k : Nat) (hk : k < ((m.set p m[q]).set q m[p]).length), ((m.set p m[q]).set q m[p])[k] = if q = k then m[p] else if p = k then m[q] else m[k]'(by simpa using hk) := fun k hk => by
  rw [List.getElem_set, List.getElem_set]
 constructor
 ·intro h
  obtain ⟨k, hk, e⟩ := List.getElem_of_mem h
  rw [hg k hk] at e
  split at e
  ·exact e ▸ List.getElem_mem hp
  ·split at e
   ·exact e ▸ List.getElem_mem hq
   ·exact e ▸ List.getElem_mem _
 ·intro h
  obtain ⟨k, hk, e⟩ := List.getElem_of_mem h
  have hl : ((m.set p m[q]).set q m[p]).length = m.length := by rw [List.length_set, List.length_set]
  by_cases h1 : k = p
  ·subst h1
   rw [← e]
   have := List.getElem_mem (l := (m.set k m[q]).set q m[k]) (n := q) (by omega)
   rw [hg q (by omega), if_pos rfl] at this; exact this
  ·by_cases h2 : k = q
   ·subst h2
    rw [← e]
    have := List.getElem_mem (l := (m.set p m[k]).set k m[p]) (n := p) (by omega)
    rw [hg p (by omega), if_neg (by omega), if_pos rfl] at this; exact this
   ·rw [← e]
    have := List.getElem_mem (l := (m.set p m[q]).set q m[p]) (n := k) (by omega)
    rw [hg k (by omega), if_neg (by omega), if_neg (by omega)] at this; exact this
theorem hszR : (Try.prog.types[39]).size = layR.k := by kernel_rfl
def eqS (s t : SetX) : Bool := s.same t && decide (s.ttl = t.ttl)
def cntS (s : SetX) (l : List SetX) : Nat := (l.filter (eqS s)).length
theorem sturned_fn (l : List RcX) (t : List Int) (hl : fitR l) (htl : t.length ≤ 100000000000000) : ∃ r, FnS Try.prog 0 5 [trR l, trI t] .e 0 r ∧ ∃ H k wr, r = .ret (.bool true) H k wr := by
 refine zMe mixed tbSt9 [] Try.func5 (c := bodyOf Try.f5) (by kernel_rfl) ?_
 refine Exists.intro (l, 40) (And.intro ⟨rfl, hl⟩ ?_)
 refine ifK (fun g => ?_) (fun g1 => ?_)
 ·exact ⟨_, _, _, rfl⟩
 obtain ⟨hn, ht⟩ := zOp (l := l) g1
 refine ifK (fun g => ?_) (fun g2 => ?_)
 ·exact ⟨_, _, _, rfl⟩
 refine zCf (fun (i : Nat) f => ⟨slots 8 [(0, trR l), (1, trI t), (5, .bool true), (6, .int .i64 (i : Nat))] f, heap 0 [], 0, [], []⟩) (fun i => l.length - i) (fun i => i ≤ l.length ∧ ∀ x ∈ l.take i, (labels (bs x.n)).2 = 0) 0 ⟨Nat.zero_le _, fun x hx => by simp at hx⟩ ?_ ?_
 ·exact rcq [] ⟨⟨_, rfl, zAa 8 rfl⟩, ⟨_, rfl, zAa 8 rfl⟩, ⟨_, rfl, .bool _⟩, ⟨_, rfl, .int _ _⟩, trivial⟩ trivial .nil
 rintro i f ⟨hi, hok⟩
 refine zGp tbSt9 [] 0 _ none mixed _ _ _ ?_
 refine ifK (fun h1 => ?_) (fun h1 => ?_)
 ·have h1 : i < l.length := by have h1 : ((i : Nat) : Int) < (l.length : Int) := of_decide_eq_true h1; omega
  refine ifK (fun _ => ?_) (fun h2 => absurd h2 (by simp [inI]; omega))
  refine Exists.intro l[i].n (Exists.intro l[i].t (Exists.intro l[i].c (Exists.intro l[i].ttl (Exists.intro l[i].d (And.intro (zEx layR h1) ?_)))))
  refine Exists.intro ⟨⟨l[i].n, 0, 0, 0, [emp]⟩, .slice (some ⟨0, 0, none⟩) 1 1⟩ (And.intro ⟨rfl, LtL.own layS (l := [emp]) [] (by decide) (.inr ⟨Nat.le_refl _, by decide⟩) (by kernel_rfl) rfl, short_of (ht _ (List.getElem_mem h1)).1⟩ ?_)
  refine ifK (fun g2 => ?_) (fun g2 => ?_)
  ·exact And.intro rfl (zCp (rcq [] (d := 8) (d2 := 0) (lv := [(4, .bool true)]) (bs := []) (W := []) (m := 0) (df := []) ⟨⟨_, rfl, .bool _⟩, trivial⟩ trivial .nil) (fun f => ⟨_, _, _, rfl⟩))
  ·have g2 : (SetX.chk ⟨l[i].n, 0, 0, 0, [emp]⟩ != 0) = false := g2
   have hlab : (labels (bs l[i].n)).2 = 0 := by
    have e := chk_one l[i].n
    rw [show (SetX.chk ⟨l[i].n, 0, 0, 0, [emp]⟩ == 0) = true by simpa [bne] using g2] at e
    exact of_decide_eq_true e.symm
   refine ⟨i + 1, ⟨h1, fun x hx => ?_⟩, by show l.length - (i + 1) < l.length - i; omega, rcq [] ⟨⟨_, rfl, zAa 8 rfl⟩, ⟨_, rfl, zAa 8 rfl⟩, ⟨_, rfl, .bool _⟩, zAu rfl (by rw [wrapN (by omega) (by omega)]; omega), trivial⟩ trivial .nil⟩
   rw [List.take_succ_eq_append_getElem h1] at hx
   rcases List.mem_append.1 hx with hx | hx
   ·exact hok x hx
   ·rw [List.mem_singleton.1 hx]; exact hlab
 ·have h1 : ¬ i < l.length := by have h1 : ¬ ((i : Nat) : Int) < (l.length : Int) := of_decide_eq_false h1; omega
  rw [List.take_of_length_le (by omega)] at hok
  refine And.intro rfl (zCp (rcq [] (d := 8) (d2 := 0) (lv := [(0, trR l), (1, trI t), (5, .bool true)]) (bs := []) (W := []) (m := 0) (df := []) ⟨⟨_, rfl, zAa 8 rfl⟩, ⟨_, rfl, zAa 8 rfl⟩, ⟨_, rfl, .bool _⟩, trivial⟩ trivial .nil) (fun f => ?_))
  have hby : (Try.prog.types[39]).bytes ≤ 100 := by decide +kernel
  refine ifK (fun h0 => ?_) (fun h0 => ?_)
  ·have h0 : l = [] := List.eq_nil_of_length_eq_zero (Nat.eq_of_beq_eq_true h0)
   have e0 : ∀ H : Tr AObj, LtL layR H (.slice (some ⟨0, 0, none⟩) 0 0) l := fun H => .inr (.inr (.inr ⟨0, rfl, h0⟩))
   have hw0 : ∀ x ∈ l, okR x := fun x hx => ⟨by have := (ht x hx).1; omega, ((hl.2 x hx).2)⟩
   refine LW.round (zGp tbSt9 [] 0 _ none mixed _ _ _ ?_)
   refine ifK (fun h1 => ?_) (fun h1 => ?_)
   ·refine Exists.intro (l, trR l) (And.intro ⟨rfl, LtL.tree layR _ l, by show l.length ≤ _; omega, hw0⟩ ?_)
    refine Exists.intro (l, .slice (some ⟨0, 0, none⟩) 0 0) (And.intro ⟨rfl, e0 _, by show l.length ≤ _; omega, hw0⟩ ?_)
    refine ifK (fun h3 => absurd (show (((grp l).length : Int) != ((grp l).length : Int)) = true from h3) (by simp)) (fun _ => ?_)
    refine LW.round (zGp tbSt9 [] 0 _ none mixed _ _ _ ?_)
    have hg0 : (grp l).length ≤ 40 := Nat.le_trans (zCk l) hn
    refine ifK (fun h3 => absurd (show ((0 : Nat) : Int) < ((grp l).length : Int) from of_decide_eq_true h3) (by have := zCk l; rw [h0] at this ⊢; have : (grp ([] : List RcX)).length ≤ 0 := this; omega)) (fun _ => ?_)
    refine Exists.intro (grp l) (And.intro ⟨rfl, by omega⟩ ?_)
    refine Exists.intro (grp l) (And.intro ⟨rfl, by omega⟩ ?_)
    exact ⟨_, _, _, congrArg (fun b => Res.ret (.bool b) _ _ _) (by show (leastY (grp l) == leastY (grp l)) = true; exact beq_self_eq_true _)⟩
   ·refine Exists.intro (l, trR l) (And.intro ⟨rfl, LtL.tree layR _ l, by show l.length ≤ _; omega, hw0⟩ ?_)
    refine Exists.intro (l, .slice (some ⟨0, 0, none⟩) 0 0) (And.intro ⟨rfl, e0 _, by show l.length ≤ _; omega, hw0⟩ ?_)
    refine ifK (fun h3 => absurd (show (((grp l).length : Int) != ((grp l).length : Int)) = true from h3) (by simp)) (fun _ => ?_)
    refine LW.round (zGp tbSt9 [] 0 _ none mixed _ _ _ ?_)
    have hg0 : (grp l).length ≤ 40 := Nat.le_trans (zCk l) hn
    refine ifK (fun h3 => absurd (show ((0 : Nat) : Int) < ((grp l).length : Int) from of_decide_eq_true h3) (by have := zCk l; rw [h0] at this ⊢; have : (grp ([] : List RcX)).length ≤ 0 := this; omega)) (fun _ => ?_)
    refine Exists.intro (grp l) (And.intro ⟨rfl, by omega⟩ ?_)
    refine Exists.intro (grp l) (And.intro ⟨rfl, by omega⟩ ?_)
    exact ⟨_, _, _, congrArg (fun b => Res.ret (.bool b) _ _ _) (by show (leastY (grp l) == leastY (grp l)) = true; exact beq_self_eq_true _)⟩
  ·have hne : l ≠ [] := fun q => by rw [q] at h0; exact absurd h0 (by decide)
   refine And.intro (by simp only [Bool.and_eq_true, decide_eq_true_eq, Nat.zero_add]; have := Nat.mul_le_mul hn hby; and_intros <;> omega) ?_
   refine zCf (fun (p : Nat × List RcX) f => ⟨slots 8 [(0, trR l), (1, trI t), (5, .bool true), (7, .slice (some ⟨0, 0, none⟩) (0 + l.length) U), (8, .int .i64 (p.1 : Nat))] f, heap 1 [(0, .cells (p.2.flatMap layR.g) 39)], 1, [], []⟩) (fun p => t.length - p.1) (fun p => p.1 ≤ t.length ∧ p.2.length = l.length ∧ ∀ x, x ∈ l ↔ x ∈ p.2) (0, l) ⟨Nat.zero_le _, rfl, fun _ => Iff.rfl⟩ ?_ ?_
   ·exact rcq [1] ⟨⟨_, rfl, zAa 8 rfl⟩, ⟨_, rfl, zAa 8 rfl⟩, ⟨_, rfl, .bool _⟩, ⟨_, rfl, .sl _ _ _ _ _ rfl⟩, ⟨_, rfl, .int _ _⟩, trivial⟩ ⟨bpo (zAm layR.g layR.plain _), trivial⟩ .nil
   rintro ⟨i, m⟩ f ⟨hi, hml, hmm⟩
   refine zGp tbSt9 [0, 900003] 0 _ none mixed _ _ _ ?_
   have hi : i ≤ t.length := hi
   have hml : m.length = l.length := hml
   have hmm : ∀ x, x ∈ l ↔ x ∈ m := hmm
   have hl0 : 0 < l.length := List.length_pos_iff.2 hne
   refine ifK (fun h1 => ?_) (fun h1 => ?_)
   ·have h1 : i < t.length := by have h1 : ((i : Nat) : Int) < (t.length : Int) := of_decide_eq_true h1; omega
    refine ifK (fun h2 => ?_) (fun h2 => ?_)
    ·refine And.intro (by kernel_rfl) ?_
     refine ifK (fun _ => ?_) (fun h2 => absurd h2 (by simp [inI]; omega))
     refine Exists.intro t[i] (And.intro (zEx layI h1) ?_)
     refine ifK (fun h3 => absurd (show (((0 + l.length : Nat) : Int) == 0) = true from h3) (by rw [beq_iff_eq]; omega)) (fun _ => ?_)
     refine And.intro (by kernel_rfl) ?_
     obtain ⟨q, hq, hql⟩ : ∃ q : Nat, pickI t[i] ((0 + l.length : Nat) : Int) = (q : Int) ∧ q < l.length := by
      rw [pickI_of (by omega) (by omega)]
      have e1 := Int.emod_nonneg t[i] (show ((0 + l.length : Nat) : Int) ≠ 0 by omega)
      have e2 := Int.emod_lt_of_pos t[i] (show (0 : Int) < ((0 + l.length : Nat) : Int) by omega)
      exact ⟨(t[i] % ((0 + l.length : Nat) : Int)).toNat, by omega, by omega⟩
     have hp : Int.tmod ((i : Nat) : Int) ((0 + l.length : Nat) : Int) = ((i % l.length : Nat) : Int) := by
      rw [Int.tmod_eq_emod_of_nonneg (by omega), Nat.zero_add]; rfl
     have hpl : i % l.length < l.length := Nat.mod_lt _ hl0
     obtain ⟨p, hpp⟩ : ∃ p, i % l.length = p := ⟨_, rfl⟩
     rw [hpp] at hp hpl
     have hqm : q < m.length := by omega
     have hpm : p < m.length := by omega
     have qi : inI (pickI t[i] ((0 + l.length : Nat) : Int)) (0 + l.length) = true := by rw [hq]; simp [inI]; omega
     have pi : inI (Int.tmod ((i : Nat) : Int) ((0 + l.length : Nat) : Int)) (0 + l.length) = true := by rw [hp]; simp [inI]; omega
     refine ifK (fun _ => ?_) (fun h2 => absurd (qi.symm.trans h2) (by decide))
     refine Exists.intro m[q].n (Exists.intro m[q].t (Exists.intro m[q].c (Exists.intro m[q].ttl (Exists.intro m[q].d (And.intro (by rw [hq]; exact own_at layR m q hqm hszR) ?_)))))
     refine ifK (fun _ => ?_) (fun h2 => absurd (pi.symm.trans h2) (by decide))
     refine Exists.intro m[p].n (Exists.intro m[p].t (Exists.intro m[p].c (Exists.intro m[p].ttl (Exists.intro m[p].d (And.intro (by rw [hp]; exact own_at layR m p hpm hszR) ?_)))))
     refine ifK (fun _ => ?_) (fun h2 => absurd (pi.symm.trans h2) (by decide))
     refine Exists.intro undef (Exists.intro [((0 : Nat), some (AObj.cells ((m.set p m[q]).flatMap layR.g) 39))] (Exists.intro (0 : Nat) (And.intro ?_ ?_)))
     ·refine zLr (b := 0) (off := 0 + p * 5) (sz := 5) (v := .agg #[.string m[q].n, .int .i64 m[q].t, .int .i64 m[q].c, .int .i64 m[q].ttl, .string m[q].d]) (C := m.flatMap layR.g) rfl ?_ rfl rfl rec_ty rfl rfl ?_ ?_
      ·show Value.pointer (some ⟨0, 0 + (Int.tmod ((i : Nat) : Int) ((0 + l.length : Nat) : Int)).toNat * (Try.prog.types[39]).size, none⟩) = _
       rw [hp, Int.toNat_natCast, hszR]; rfl
      ·exact zQk layR m p hpm
      ·have := zPy layR [] [] m p m[q] hpm
       simp only [List.nil_append, List.append_nil, List.length_nil] at this
       exact this
     have hqm' : q < (m.set p m[q]).length := by rw [List.length_set]; exact hqm
     refine ifK (fun _ => ?_) (fun h2 => absurd (qi.symm.trans h2) (by decide))
     refine Exists.intro undef (Exists.intro [((0 : Nat), some (AObj.cells (((m.set p m[q]).set q m[p]).flatMap layR.g) 39))] (Exists.intro (0 : Nat) (And.intro ?_ ?_)))
     ·refine zLr (b := 0) (off := 0 + q * 5) (sz := 5) (v := .agg #[.string m[p].n, .int .i64 m[p].t, .int .i64 m[p].c, .int .i64 m[p].ttl, .string m[p].d]) (C := (m.set p m[q]).flatMap layR.g) rfl ?_ rfl rfl rec_ty rfl rfl ?_ ?_
      ·show Value.pointer (some ⟨0, 0 + (pickI t[i] ((0 + l.length : Nat) : Int)).toNat * (Try.prog.types[39]).size, none⟩) = _
       rw [hq, Int.toNat_natCast, hszR]; rfl
      ·exact zQk layR _ q hqm'
      ·have := zPy layR [] [] (m.set p m[q]) q m[p] hqm'
       simp only [List.nil_append, List.append_nil, List.length_nil] at this
       exact this
     exact ⟨(i + 1, (m.set p m[q]).set q m[p]), ⟨h1, by show ((m.set p m[q]).set q m[p]).length = _; rw [List.length_set, List.length_set]; exact hml, fun x => (hmm x).trans (mem_swap p q hpm hqm x).symm⟩, by show t.length - (i + 1) < t.length - i; omega, rcq [0] ⟨⟨_, rfl, zAa 8 rfl⟩, ⟨_, rfl, zAa 8 rfl⟩, ⟨_, rfl, .bool _⟩, ⟨_, rfl, .sl _ _ _ _ _ rfl⟩, zAu rfl (by rw [wrapN (by omega) (by omega)]; omega), trivial⟩ ⟨bpo (zAm layR.g layR.plain _), trivial⟩ .nil⟩
    ·exact absurd (show (0 : Int) < ((0 + l.length : Nat) : Int) by omega) (of_decide_eq_false h2)
   ·have h1 : ¬ i < t.length := by have h1 : ¬ ((i : Nat) : Int) < (t.length : Int) := of_decide_eq_false h1; omega
    refine And.intro rfl (zCp (rcq [0] (d := 8) (d2 := 1) (lv := [(0, trR l), (5, .bool true), (7, .slice (some ⟨0, 0, none⟩) (0 + l.length) U)]) (bs := [(0, .cells (m.flatMap layR.g) 39)]) (W := []) (m := 1) (df := []) ⟨⟨_, rfl, zAa 8 rfl⟩, ⟨_, rfl, .bool _⟩, ⟨_, rfl, .sl _ _ _ _ _ rfl⟩, trivial⟩ ⟨bpo (zAm layR.g layR.plain _), trivial⟩ .nil) (fun f => ?_))
    have hw : ∀ x ∈ l, okR x := fun x hx => ⟨by have := (ht x hx).1; omega, ((hl.2 x hx).2)⟩
    have hvm : ∀ H : Tr AObj, H.get 0 = some (.cells (m.flatMap layR.g) 39) → LtL layR H (.slice (some ⟨0, 0, none⟩) (0 + l.length) U) m := fun H h => by
     rw [Nat.zero_add, ← hml]; exact LtL.own layR [] (by decide) (.inl rfl) h (by rw [List.append_nil])
    refine Exists.intro (l, trR l) (And.intro ⟨rfl, LtL.tree layR _ l, by show l.length ≤ _; omega, hw⟩ ?_)
    refine Exists.intro (m, .slice (some ⟨0, 0, none⟩) (0 + l.length) U) (And.intro ⟨rfl, hvm _ rfl, by show m.length ≤ _; omega, fun x hx => hw x ((hmm x).2 hx)⟩ ?_)
    obtain ⟨e1, e2⟩ := zKy hok hmm
    have hok' : ∀ x ∈ m, (labels (bs x.n)).2 = 0 := fun x hx => hok x ((hmm x).2 hx)
    have hsm : ∀ s ∈ grp l, s.small := fun s hs => zMj (l := l) hok hn (fun x hx => (ht x hx).1) hs
    have hsn : ∀ s ∈ grp m, s.small := fun s hs => zMj (l := m) hok' (by omega) (fun x hx => (ht x ((hmm x).2 hx)).1) hs
    have hg : (grp l).length ≤ 40 := Nat.le_trans (zCk l) hn
    refine ifK (fun h3 => absurd (show (((grp l).length : Int) != ((grp m).length : Int)) = true from h3) (by rw [e1]; simp)) (fun _ => ?_)
    refine zCf (fun (i : Nat) f => ⟨slots 8 [(5, .bool true), (11, trT (grp l)), (12, trT (grp m)), (13, .int .i64 (i : Nat))] f, heap 0 [], 0, [], []⟩) (fun i => (grp l).length - i) (fun i => i ≤ (grp l).length) 0 (Nat.zero_le _) ?_ ?_
    ·exact rcq [] ⟨⟨_, rfl, .bool _⟩, ⟨_, rfl, zAa 8 rfl⟩, ⟨_, rfl, zAa 8 rfl⟩, ⟨_, rfl, .int _ _⟩, trivial⟩ trivial .nil
    clear h1 hi
    intro i f hi
    have hi : i ≤ (grp l).length := hi
    refine zGp tbSt9 [] 0 _ none mixed _ _ _ ?_
    refine ifK (fun h1 => ?_) (fun h1 => ?_)
    ·have h1 : i < (grp l).length := by have h1 : ((i : Nat) : Int) < ((grp l).length : Int) := of_decide_eq_true h1; omega
     refine zCf (fun (k : Nat) f => ⟨slots 8 [(5, .bool true), (11, trT (grp l)), (12, trT (grp m)), (13, .int .i64 (i : Nat)), (14, .int .i64 (cntS (grp l)[i] ((grp m).take k) : Nat)), (15, .int .i64 (k : Nat))] f, heap 0 [], 0, [], []⟩) (fun k => (grp m).length - k) (fun k => k ≤ (grp m).length) 0 (Nat.zero_le _) ?_ ?_
     ·exact rcq [] ⟨⟨_, rfl, .bool _⟩, ⟨_, rfl, zAa 8 rfl⟩, ⟨_, rfl, zAa 8 rfl⟩, ⟨_, rfl, .int _ _⟩, ⟨_, rfl, .int _ _⟩, ⟨_, rfl, .int _ _⟩, trivial⟩ trivial .nil
     intro k f hk
     have hk : k ≤ (grp m).length := hk
     refine zGp tbSt9 [] 0 _ none mixed _ _ _ ?_
     refine ifK (fun h3 => ?_) (fun h3 => ?_)
     ·have h3 : k < (grp m).length := by have h3 : ((k : Nat) : Int) < ((grp m).length : Int) := of_decide_eq_true h3; omega
      have hst : cntS (grp l)[i] ((grp m).take (k + 1)) = cntS (grp l)[i] ((grp m).take k) + (if eqS (grp l)[i] (grp m)[k] then 1 else 0) := by unfold cntS; rw [List.take_succ_eq_append_getElem h3, List.filter_append, List.length_append]; cases hq : eqS (grp l)[i] (grp m)[k] <;> simp [hq]
      have hle : cntS (grp l)[i] ((grp m).take k) ≤ 40 := Nat.le_trans (List.length_filter_le _ _) (by rw [List.length_take]; omega)
      refine And.intro (by kernel_rfl) ?_
      refine ifK (fun _ => ?_) (fun h2 => absurd h2 (by simp [inI]; omega))
      refine Exists.intro (grp l)[i].n (Exists.intro (grp l)[i].t (Exists.intro (grp l)[i].c (Exists.intro (grp l)[i].ttl (Exists.intro (trS (grp l)[i].d) (And.intro (zEd h1) ?_)))))
      refine ifK (fun _ => ?_) (fun h2 => absurd h2 (by simp [inI]; omega))
      refine Exists.intro (grp m)[k].n (Exists.intro (grp m)[k].t (Exists.intro (grp m)[k].c (Exists.intro (grp m)[k].ttl (Exists.intro (trS (grp m)[k].d) (And.intro (zEd h3) ?_)))))
      refine Exists.intro ((grp l)[i].lt, (grp m)[k].lt) (And.intro ⟨rfl, ⟨.tree _ _ _, .tree _ _ _⟩, hsm _ (List.getElem_mem h1), hsn _ (List.getElem_mem h3)⟩ ?_)
      refine ifK (fun h4 => ?_) (fun h4 => ?_)
      ·have h4 : (grp l)[i].same (grp m)[k] = true := h4
       refine ifK (fun _ => ?_) (fun h2 => absurd h2 (by simp [inI]; omega))
       refine Exists.intro (grp l)[i].n (Exists.intro (grp l)[i].t (Exists.intro (grp l)[i].c (Exists.intro (grp l)[i].ttl (Exists.intro (trS (grp l)[i].d) (And.intro (zEd h1) ?_)))))
       refine ifK (fun _ => ?_) (fun h2 => absurd h2 (by simp [inI]; omega))
       refine Exists.intro (grp m)[k].n (Exists.intro (grp m)[k].t (Exists.intro (grp m)[k].c (Exists.intro (grp m)[k].ttl (Exists.intro (trS (grp m)[k].d) (And.intro (zEd h3) ?_)))))
       refine ifK (fun h5 => ?_) (fun h5 => ?_)
       ·have h5 : (grp l)[i].ttl = (grp m)[k].ttl := eq_of_beq h5
        rw [show eqS (grp l)[i] (grp m)[k] = true by unfold eqS; rw [h4, h5]; simp] at hst
        have hst : cntS (grp l)[i] ((grp m).take (k + 1)) = cntS (grp l)[i] ((grp m).take k) + 1 := hst
        exact ⟨k + 1, h3, by show (grp m).length - (k + 1) < (grp m).length - k; omega, rcq [] ⟨⟨_, rfl, .bool _⟩, ⟨_, rfl, zAa 8 rfl⟩, ⟨_, rfl, zAa 8 rfl⟩, ⟨_, rfl, .int _ _⟩, zAu rfl (by rw [wrapN (by omega) (by omega)]; omega), zAu rfl (by rw [wrapN (by omega) (by omega)]; omega), trivial⟩ trivial .nil⟩
       ·have h5 : ¬ (grp l)[i].ttl = (grp m)[k].ttl := fun e => absurd ((beq_iff_eq.2 e).symm.trans h5) (by decide)
        rw [show eqS (grp l)[i] (grp m)[k] = false by unfold eqS; rw [h4]; simp [h5]] at hst
        have hst : cntS (grp l)[i] ((grp m).take (k + 1)) = cntS (grp l)[i] ((grp m).take k) := hst
        exact ⟨k + 1, h3, by show (grp m).length - (k + 1) < (grp m).length - k; omega, rcq [] ⟨⟨_, rfl, .bool _⟩, ⟨_, rfl, zAa 8 rfl⟩, ⟨_, rfl, zAa 8 rfl⟩, ⟨_, rfl, .int _ _⟩, zAu rfl (by rw [hst]), zAu rfl (by rw [wrapN (by omega) (by omega)]; omega), trivial⟩ trivial .nil⟩
      ·have h4 : (grp l)[i].same (grp m)[k] = false := h4
       rw [show eqS (grp l)[i] (grp m)[k] = false by unfold eqS; rw [h4]; rfl] at hst
       have hst : cntS (grp l)[i] ((grp m).take (k + 1)) = cntS (grp l)[i] ((grp m).take k) := hst
       exact ⟨k + 1, h3, by show (grp m).length - (k + 1) < (grp m).length - k; omega, rcq [] ⟨⟨_, rfl, .bool _⟩, ⟨_, rfl, zAa 8 rfl⟩, ⟨_, rfl, zAa 8 rfl⟩, ⟨_, rfl, .int _ _⟩, zAu rfl (by rw [hst]), zAu rfl (by rw [wrapN (by omega) (by omega)]; omega), trivial⟩ trivial .nil⟩
     ·have h3 : ¬ k < (grp m).length := by have h3 : ¬ ((k : Nat) : Int) < ((grp m).length : Int) := of_decide_eq_false h3; omega
      have hone : 1 ≤ cntS (grp l)[i] ((grp m).take k) := by
       rw [List.take_of_length_le (by omega)]
       obtain ⟨t, ht, g1, g2⟩ := e2 _ (List.getElem_mem h1)
       exact List.length_pos_iff.2 (List.ne_nil_of_mem (List.mem_filter.2 ⟨ht, by unfold eqS; rw [g1, g2]; simp⟩))
      obtain ⟨N, hN⟩ : ∃ N, cntS (grp l)[i] ((grp m).take k) = N := ⟨_, rfl⟩
      rw [hN] at hone
      refine And.intro rfl (zCp (rcq [] (d := 8) (d2 := 0) (lv := [(5, .bool true), (11, trT (grp l)), (12, trT (grp m)), (13, .int .i64 (i : Nat)), (14, .int .i64 (N : Nat))]) (bs := []) (W := []) (m := 0) (df := []) ⟨⟨_, rfl, .bool _⟩, ⟨_, rfl, zAa 8 rfl⟩, ⟨_, rfl, zAa 8 rfl⟩, ⟨_, rfl, .int _ _⟩, zAu rfl (by rw [hN]), trivial⟩ trivial .nil) (fun f => ?_))
      refine ifK (fun h4 => absurd (show ((N : Nat) : Int) < 1 from of_decide_eq_true h4) (by omega)) (fun _ => ?_)
      exact ⟨i + 1, h1, by show (grp l).length - (i + 1) < (grp l).length - i; omega, rcq [] ⟨⟨_, rfl, .bool _⟩, ⟨_, rfl, zAa 8 rfl⟩, ⟨_, rfl, zAa 8 rfl⟩, zAu rfl (by rw [wrapN (by omega) (by omega)]; omega), trivial⟩ trivial .nil⟩
    ·refine And.intro rfl (zCp (rcq [] (d := 8) (d2 := 0) (lv := [(5, .bool true), (11, trT (grp l)), (12, trT (grp m))]) (bs := []) (W := []) (m := 0) (df := []) ⟨⟨_, rfl, .bool _⟩, ⟨_, rfl, zAa 8 rfl⟩, ⟨_, rfl, zAa 8 rfl⟩, trivial⟩ trivial .nil) (fun f => ?_))
     refine Exists.intro (grp l) (And.intro ⟨rfl, by omega⟩ ?_)
     refine Exists.intro (grp m) (And.intro ⟨rfl, by omega⟩ ?_)
     have hle := grp_least hok hmm
     exact ⟨_, _, _, congrArg (fun b => Res.ret (.bool b) _ _ _) (by show (leastY (grp l) == leastY (grp m)) = true; rw [hle]; exact beq_self_eq_true _)⟩
end Go.Proofs.Ytblhnenhonfpnaa
