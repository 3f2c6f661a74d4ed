/- DERIVED. Texts put together: Gt2, Gt3, Gl3, Sp2. -/
import Derived.Test.YtblhnenhonfpnaaZ13
import Derived.Test.YtblhnenhonfpnaaZ20
import Derived.Test.YtblhnenhonfpnaaZ24
import Derived.Test.YtblhnenhonfpnaaZ25
import Derived.Test.YtblhnenhonfpnaaZ30
set_option maxRecDepth 1000000
set_option maxHeartbeats 32000000
namespace Go.Proofs.Ytblhnenhonfpnaa
open Go Go.RowKit
theorem trR_inj {a b : List RcX} (h : [trR a] = [trR b]) : a = b := by simp only [List.cons.injEq, and_true] at h; exact zBz layR h
noncomputable def ct_groupT : Ct Try.prog 0 :=
 CtR.ct { f := 12, X := List RcX, pre := fun l a _ _ => a = [trR l] ∧ l.length ≤ 1000000 ∧ ∀ x ∈ l, okR x, out := fun l H n => .ret (trT (grp l)) H n [],
          ok := fun l a H n ⟨h1, h2, h3⟩ => by
           subst h1
           cases l with
           | nil =>
            obtain ⟨r, hF, H', m, wr, rfl⟩ := group_nil
            exact zJn hF rfl (.one _ _ (.nil 5)) H n
           | cons x l => exact group_ok (by simp) h2 h3 H n,
          uniq := fun x y a H n ⟨h1, _⟩ ⟨k1, _⟩ => by rw [h1] at k1; rw [trR_inj k1] }
def totR : List RcX → Nat
 | [] => 0
 | x :: l => totR l + (x.n.size + x.d.size)
theorem totR_take {l : List RcX} {i : Nat} (h : i < l.length) : totR (l.take (i + 1)) = totR (l.take i) + (l[i].n.size + l[i].d.size) := by
 induction l generalizing i with
 | nil => cases h
 | cons o l ih =>
  cases i with
  | zero => rfl
  | succ i =>
   have h' : i < l.length := by simpa using h
   have := ih (i := i) h'
   show totR (l.take (i + 1)) + _ = (totR (l.take i) + _) + _
   rw [this]
   show _ = totR (l.take i) + (o.n.size + o.d.size) + ((l[i]'h').n.size + (l[i]'h').d.size)
   omega
theorem totR_pre {l : List RcX} (i : Nat) : totR (l.take i) ≤ totR l := by
 induction l generalizing i with
 | nil => rw [List.take_nil]; exact Nat.le_refl _
 | cons o l ih => cases i with
  | zero => exact Nat.zero_le _
  | succ i => have := ih i; show totR (l.take i) + _ ≤ totR l + _; omega
theorem zQy {x : RcX} : ∀ {l : List RcX}, x ∈ l → x.n.size + x.d.size ≤ totR l
 | y :: l, h => by
  rcases List.mem_cons.1 h with rfl | h
  ·show _ ≤ totR l + _; omega
  ·have := zQy h; show _ ≤ totR l + _; omega
def longR (l : List RcX) (most : Int) : Bool := decide ((l.length : Int) > most) || decide (2000 < totR l)
def fitR (l : List RcX) : Prop := l.length ≤ 9000000000000 ∧ ∀ x ∈ l, (x.n.size ≤ 140737488355328 ∧ x.d.size ≤ 140737488355328) ∧ (Lit.int .i64 x.t).wf = true ∧ (Lit.int .i64 x.c).wf = true
theorem zOs (l : List RcX) (most : Int) (hf : fitR l) : ∃ r, FnS Try.prog 0 10 [trR l, .int .i64 most] .e 0 r ∧ ∃ H m wr, r = .ret (.bool (longR l most)) H m wr := by
 obtain ⟨hl, hb⟩ := hf
 refine zIa mixed tbSt0 [] Try.func10 (c := bodyOf Try.f10) (by kernel_rfl) ?_
 refine zBp (fun (i : Nat) f => ⟨slots 6 [(0, trR l), (1, .int .i64 most), (5, .int .i64 ((totR (l.take i) : Nat) : Int)), (6, .int .i64 (i : Nat))] f, heap 0 [], 0, [], []⟩) (fun i => l.length - i) (fun i => i ≤ l.length ∧ totR (l.take i) ≤ 562949953423312) 0 ⟨Nat.zero_le _, Nat.zero_le _⟩ (rcq [] ⟨⟨_, rfl, zAa 8 rfl⟩, ⟨_, rfl, .int _ _⟩, ⟨_, rfl, .int _ _⟩, ⟨_, rfl, .int _ _⟩, trivial⟩ trivial .nil) ?_
 rintro i f ⟨hi, hs⟩
 have fin : ∀ (h9 : l.length ≤ i ∨ 2000 < totR (l.take i)), decide (((totR (l.take i) : Nat) : Int) > 2000) = decide (2000 < totR l) := fun h9 => by
  have hp := totR_pre (l := l) i
  rcases h9 with h9 | h9
  ·rw [List.take_of_length_le h9]
   by_cases h : 2000 < totR l
   ·rw [decide_eq_true h, decide_eq_true (by omega)]
   ·rw [decide_eq_false h, decide_eq_false (by omega)]
  ·rw [decide_eq_true (show 2000 < totR l by omega), decide_eq_true (by omega)]
 refine zFv tbSt0 [] 0 _ none mixed _ _ _ ?_
 refine ifK (fun h1 => ?_) (fun h1 => ?_)
 ·have h1 : i < l.length := by have h1 : ((i : Nat) : Int) < (l.length : Int) := of_decide_eq_true h1; omega
  refine ifK (fun h2 => ?_) (fun h2 => ?_)
  ·have h2 : totR (l.take i) ≤ 2000 := by have h2 : ((totR (l.take i) : Nat) : Int) ≤ 2000 := of_decide_eq_true h2; omega
   obtain ⟨⟨hx1, hx2⟩, _⟩ := hb l[i] (List.getElem_mem h1)
   have ht := totR_take h1
   refine And.intro (by kernel_rfl) ?_
   refine ifK (fun _ => ?_) (fun h2 => absurd h2 (by simp [inI]; omega))
   refine Exists.intro l[i].n (Exists.intro l[i].t (Exists.intro l[i].c (Exists.intro l[i].ttl (Exists.intro l[i].d (And.intro (zBg layR h1) ?_)))))
   refine ifK (fun _ => ?_) (fun h2 => absurd h2 (by simp [inI]; omega))
   refine Exists.intro l[i].n (Exists.intro l[i].t (Exists.intro l[i].c (Exists.intro l[i].ttl (Exists.intro l[i].d (And.intro (zBg layR h1) ?_)))))
   have hw : IntKind.i64.wrap (IntKind.i64.wrap (((totR (l.take i) : Nat) : Int) + (l[i].n.data.size : Int)) + (l[i].d.data.size : Int)) = ((totR (l.take (i + 1)) : Nat) : Int) := by
    have a1 : l[i].n.data.size ≤ 140737488355328 := hx1
    have a2 : l[i].d.data.size ≤ 140737488355328 := hx2
    have a3 : totR (l.take (i + 1)) = totR (l.take i) + (l[i].n.data.size + l[i].d.data.size) := ht
    have a4 : IntKind.i64.wrap (((totR (l.take i) : Nat) : Int) + (l[i].n.data.size : Int)) = ((totR (l.take i) + l[i].n.data.size : Nat) : Int) := (by rw [wrapN (by omega) (by omega)]; omega)
    rw [a4, wrapN (by omega) (by omega)]; omega
   exact ⟨i + 1, ⟨h1, by show totR (l.take (i + 1)) ≤ _; omega⟩, by show l.length - (i + 1) < l.length - i; omega, rcq [] ⟨⟨_, rfl, zAa 8 rfl⟩, ⟨_, rfl, .int _ _⟩, zAi rfl hw, zAi rfl (by rw [wrapN (by omega) (by omega)]; omega), trivial⟩ trivial .nil⟩
  ·have h2 : 2000 < totR (l.take i) := by have h2 : ¬ ((totR (l.take i) : Nat) : Int) ≤ 2000 := of_decide_eq_false h2; omega
   refine And.intro rfl (zBr (rcq [] (d := 6) (d2 := 0) (lv := [(0, trR l), (1, .int .i64 most), (5, .int .i64 ((totR (l.take i) : Nat) : Int))]) (bs := []) (W := []) (m := 0) (df := []) ⟨⟨_, rfl, zAa 8 rfl⟩, ⟨_, rfl, .int _ _⟩, ⟨_, rfl, .int _ _⟩, trivial⟩ trivial .nil) (fun f => ?_))
   refine ifK (fun h3 => ?_) (fun h3 => ?_)
   ·rw [show longR l most = true by unfold longR; rw [show decide ((l.length : Int) > most) = true from h3]; rfl]
    exact ⟨_, _, _, rfl⟩
   ·rw [show longR l most = decide (((totR (l.take i) : Nat) : Int) > 2000) by unfold longR; rw [show decide ((l.length : Int) > most) = false from h3, fin (.inr h2)]; rfl]
    exact ⟨_, _, _, rfl⟩
 ·have h1 : ¬ i < l.length := by have h1 : ¬ ((i : Nat) : Int) < (l.length : Int) := of_decide_eq_false h1; omega
  refine And.intro rfl (zBr (rcq [] (d := 6) (d2 := 0) (lv := [(0, trR l), (1, .int .i64 most), (5, .int .i64 ((totR (l.take i) : Nat) : Int))]) (bs := []) (W := []) (m := 0) (df := []) ⟨⟨_, rfl, zAa 8 rfl⟩, ⟨_, rfl, .int _ _⟩, ⟨_, rfl, .int _ _⟩, trivial⟩ trivial .nil) (fun f => ?_))
  refine ifK (fun h3 => ?_) (fun h3 => ?_)
  ·rw [show longR l most = true by unfold longR; rw [show decide ((l.length : Int) > most) = true from h3]; rfl]
   exact ⟨_, _, _, rfl⟩
  ·rw [show longR l most = decide (((totR (l.take i) : Nat) : Int) > 2000) by unfold longR; rw [show decide ((l.length : Int) > most) = false from h3, fin (.inl (by omega))]; rfl]
   exact ⟨_, _, _, rfl⟩
noncomputable def zOa : Ct Try.prog 0 := CtR.tree 10 (List RcX × Int) (fun x => [trR x.1, .int .i64 x.2]) (fun x => fitR x.1) (fun x => .bool (longR x.1 x.2)) (fun a b h => by simp only [List.cons.injEq, Value.int.injEq, true_and, and_true] at h; exact Prod.ext (zBz layR h.1) h.2) (fun _ => rfl)
 (fun x hf => by obtain ⟨r, hF, H, m, wr, rfl⟩ := zOs x.1 x.2 hf; exact ⟨_, _, _, _, hF, .one _ _ (.plain _ rfl)⟩)
section
open Go.Joins Go.ChangeShapes Go.WideShapes Go.Deep
variable {H : Type} {enc : TypeId × Value → H} {w : World} {base : Nat} {spare : Nat → Bool} {held : Bool}
theorem trod_iW {n : Nat} {c : Value} {y : DataW H × List MemPlace} (h : DataW.trod enc Try.prog w base spare held n 3 [c] = some y) : ∃ x : Int, c = .int .i64 x ∧ (Lit.int .i64 x).wf = true := by
 obtain ⟨a, e, _, hw⟩ := DataW.trod_int Try.underlying3 h
 simp only [List.cons.injEq, and_true] at e
 exact ⟨a, e, hw⟩
theorem trod_rcQ {n : Nat} {x : RcX} {y : DataW H × List MemPlace} {R : Nat} (h : DataW.trod enc Try.prog w base spare held n 39 (layR.g x) = some y) (hw : ∀ q ∈ y.1.weights Try.prog 39, q ≤ R) : (x.n.size ≤ R ∧ x.d.size ≤ R) ∧ (Lit.int .i64 x.t).wf = true ∧ (Lit.int .i64 x.c).wf = true := by
 have hf := zJs 8 39 [9, 3, 3, 3, 9] n (layR.g x) y (by kernel_rfl) h rfl
 obtain ⟨_, _, h0, w0⟩ := hf 0 _ _ rfl rfl
 obtain ⟨_, _, h1, _⟩ := hf 1 _ _ rfl rfl
 obtain ⟨_, _, h2, _⟩ := hf 2 _ _ rfl rfl
 obtain ⟨_, _, h4, w4⟩ := hf 4 _ _ rfl rfl
 obtain ⟨x0, e0, s0⟩ := trod_sQ h0 (fun q hq => hw q (w0 q hq))
 obtain ⟨x1, e1, s1⟩ := trod_iW h1
 obtain ⟨x2, e2, s2⟩ := trod_iW h2
 obtain ⟨x4, e4, s4⟩ := trod_sQ h4 (fun q hq => hw q (w4 q hq))
 cases e0; cases e1; cases e2; cases e4
 exact ⟨⟨s0, s4⟩, s1, s2⟩
theorem bytes_rT : Try.prog.bytesOf 39 = 56 := by kernel_rfl
theorem open_recsT {r : Reach} {b0 : Nat} {v : Value} {d : DataW H} {p : List MemPlace} (hpos : 0 < w.heap.size) (hv : Value.okWide Try.prog w r b0 22 v) (h : DataW.Trod enc Try.prog w base spare held 22 v d p) (hw : ∀ n ∈ d.weights Try.prog 22, n ≤ reachBytes) :
  ∃ l : List RcX, fitR l ∧ VR (Env.all w) (trR l) v := by
 obtain ⟨n, h⟩ := zJe Try.underlying22 hv h
 have hR : reachBytes = 140737488351232 := by decide
 obtain ⟨y, g, s, hq, e⟩ := zRz layR (fun x => (x.n.size ≤ reachBytes ∧ x.d.size ≤ reachBytes) ∧ (Lit.int .i64 x.t).wf = true ∧ (Lit.int .i64 x.c).wf = true) Try.underlying22 (by kernel_rfl) (fun _ _ _ hy => trod_rc hy) (fun _ x y hy hw' => trod_rcQ hy hw') (zOv Try.underlying22 hv) h hpos hw
 have s : y.l.length * 56 ≤ reachBytes := bytes_rT ▸ s
 refine ⟨y.l, ⟨by omega, fun x hx => ?_⟩, zSn layR g e⟩
 have := hq x hx
 exact ⟨⟨by omega, by omega⟩, this.2⟩
end
end Go.Proofs.Ytblhnenhonfpnaa
namespace Go.Proofs.Ytblhnenhonfpnaa
open Go Go.RowKit
theorem hasL_tr (l : List ByteArray) (s : ByteArray) (hl : l.length ≤ 1000000000) : ∃ r, FnS Try.prog 0 34 [trS l, Value.string s] .e 0 r ∧ ∃ H m wr, r = .ret (.bool (hasS l s)) H m wr := by
 refine zIa mixed tbSt0 [] Try.func34 (c := bodyOf Try.f34) (by kernel_rfl) ?_
 refine zBp (fun (i : Nat) f => ⟨slots 5 [(0, trS l), (1, .string s), (5, .int .i64 (i : Nat))] f, heap 0 [], 0, [], []⟩) (fun i => l.length - i) (fun i => i ≤ l.length ∧ hasS l s = hasS (l.drop i) s) 0 ⟨Nat.zero_le _, rfl⟩ (rcq [] ⟨⟨_, rfl, zAa 8 rfl⟩, ⟨_, rfl, zDd 8 rfl⟩, ⟨_, rfl, .int _ _⟩, trivial⟩ trivial .nil) ?_
 rintro i f ⟨hi, heq⟩
 refine zFv tbSt0 [] 0 _ none mixed _ _ _ ?_
 refine ifK (fun h1 => ?_) (fun h1 => ?_)
 ·have h1 : i < l.length := by have h1 : ((i : Nat) : Int) < (l.length : Int) := of_decide_eq_true h1; omega
  have hst : hasS (l.drop i) s = (decide (l[i] = s) || hasS (l.drop (i + 1)) s) := by rw [List.drop_eq_getElem_cons h1]; rfl
  rw [hst] at heq
  refine ifK (fun _ => ?_) (fun h2 => absurd h2 (by simp [inI]; omega))
  refine Exists.intro l[i] (And.intro (zBg layS h1) ?_)
  refine ifK (fun h3 => ?_) (fun h3 => ?_)
  ·rw [show hasS l s = true by rw [heq, zQw (a := l[i]) (b := s) (h := true) h3]; rfl]
   exact And.intro rfl (zBr (rcq [] (d := 5) (d2 := 0) (lv := [(4, .bool true)]) (bs := []) (W := []) (m := 0) (df := []) ⟨⟨_, rfl, zDd 8 rfl⟩, trivial⟩ trivial .nil) (fun f => ⟨_, _, _, rfl⟩))
  ·rw [zQw (a := l[i]) (b := s) (h := false) h3] at heq
   exact ⟨i + 1, ⟨h1, heq⟩, by show l.length - (i + 1) < l.length - i; omega, rcq [] ⟨⟨_, rfl, zAa 8 rfl⟩, ⟨_, rfl, zDd 8 rfl⟩, zAi rfl (by rw [wrapN (by omega) (by omega)]; omega), trivial⟩ trivial .nil⟩
 ·have h1 : ¬ i < l.length := by have h1 : ¬ ((i : Nat) : Int) < (l.length : Int) := of_decide_eq_false h1; omega
  rw [show hasS l s = false by rw [heq, List.drop_eq_nil_of_le (by omega)]; rfl]
  exact And.intro rfl (zBr (rcq [] (d := 5) (d2 := 0) (lv := []) (bs := []) (W := []) (m := 0) (df := []) trivial trivial .nil) (fun f => ⟨_, _, _, rfl⟩))
noncomputable def ct_hasL : Ct Try.prog 0 := CtR.tree 34 (List ByteArray × ByteArray) (fun x => [trS x.1, Value.string x.2]) (fun x => x.1.length ≤ 1000000000) (fun x => .bool (hasS x.1 x.2)) (fun _ _ h => sS_inj h) (fun _ => rfl)
 (fun x hl => by obtain ⟨r, hF, H, m, wr, rfl⟩ := hasL_tr x.1 x.2 hl; exact ⟨_, _, _, _, hF, .one _ _ (.plain _ rfl)⟩)
theorem zMd : ∀ {a b : List SetX}, a.flatMap gS = b.flatMap gS → a = b
 | [], [], _ => rfl
 | [], y :: b, h => by simp [gS, SetX.cs] at h
 | x :: a, [], h => by simp [gS, SetX.cs] at h
 | x :: a, y :: b, h => by
  rw [List.flatMap_cons, List.flatMap_cons] at h
  obtain ⟨h1, h2⟩ := List.append_inj h (by rw [zMg, zMg])
  have e : x.v = y.v := congrArg (fun l => Value.agg ⟨l⟩) h1
  rw [SetX.v_inj e, zMd h2]
theorem trT_inj {a b : List SetX} (h : trT a = trT b) : a = b := by
 simp only [trT, treeV, Value.func.injEq, Fn.via.injEq, Array.mk.injEq, true_and, and_true] at h
 exact zMd h.2
noncomputable def zOb : Ct Try.prog 0 := CtR.tree 31 SetX (fun x => [x.v, x.v]) (fun x => x.d.length ≤ 1000000000) (fun _ => .bool true) (fun a b h => by simp only [List.cons.injEq, and_true] at h; exact SetX.v_inj h.1) (fun _ => rfl)
 (fun x h => by obtain ⟨r, hF, H, k, wr, rfl⟩ := zSg x h; exact ⟨_, _, _, _, hF, .one _ _ (.plain _ rfl)⟩)
noncomputable def tbG3 : Tb Try.prog 0 := tbOf mixed [zOb]
theorem zCk {l : List SetX} {i : Nat} (h : i < l.length) : ((l.flatMap gS).drop ((i : Int).toNat * 5)).take 5 = gS l[i] := by
 rw [Int.toNat_natCast]; exact (zGc gS 5 zMg l i h).2
theorem zPg (l : List SetX) (hl : l.length ≤ 1000000000) (hd : ∀ x ∈ l, x.d.length ≤ 1000000000) : ∃ r, FnS Try.prog 0 14 [trT l, trT l] .e 0 r ∧ ∃ H m wr, r = .ret (.bool true) H m wr := by
 refine zIa mixed tbG3 [] Try.func14 (c := bodyOf Try.f14) (by kernel_rfl) ?_
 refine ifK (fun g => ?_) (fun _ => ?_)
 ·have g : ((l.length : Int) != (l.length : Int)) = true := g
  simp at g
 refine zBp (fun (i : Nat) f => ⟨slots 5 [(0, trT l), (1, trT l), (5, .int .i64 (i : Nat))] f, heap 0 [], 0, [], []⟩) (fun i => l.length - i) (fun i => i ≤ l.length) 0 (Nat.zero_le _) (rcq [] ⟨⟨_, rfl, zAa 8 rfl⟩, ⟨_, rfl, zAa 8 rfl⟩, ⟨_, rfl, .int _ _⟩, trivial⟩ trivial .nil) ?_
 intro i f hi
 have hi : i ≤ l.length := hi
 refine zFv tbG3 [] 0 _ none mixed _ _ _ ?_
 refine ifK (fun h1 => ?_) (fun h1 => ?_)
 ·have h1 : i < l.length := by have h1 : ((i : Nat) : Int) < (l.length : Int) := of_decide_eq_true h1; omega
  refine And.intro (by kernel_rfl) ?_
  refine ifK (fun _ => ?_) (fun h2 => absurd h2 (by simp [inI]; omega))
  refine Exists.intro l[i].n (Exists.intro l[i].t (Exists.intro l[i].c (Exists.intro l[i].ttl (Exists.intro (trS l[i].d) (And.intro (zCk h1) ?_)))))
  refine ifK (fun _ => ?_) (fun h2 => absurd h2 (by simp [inI]; omega))
  refine Exists.intro l[i].n (Exists.intro l[i].t (Exists.intro l[i].c (Exists.intro l[i].ttl (Exists.intro (trS l[i].d) (And.intro (zCk h1) ?_)))))
  refine Exists.intro l[i] (And.intro ⟨rfl, hd _ (List.getElem_mem h1)⟩ ?_)
  exact ⟨i + 1, h1, by show l.length - (i + 1) < l.length - i; omega, rcq [] ⟨⟨_, rfl, zAa 8 rfl⟩, ⟨_, rfl, zAa 8 rfl⟩, zAi rfl (by rw [wrapN (by omega) (by omega)]; omega), trivial⟩ trivial .nil⟩
 ·exact And.intro rfl (zBr (rcq [] (d := 5) (d2 := 0) (lv := []) (bs := []) (W := []) (m := 0) (df := []) trivial trivial .nil) (fun f => ⟨_, _, _, rfl⟩))
noncomputable def zLw : Ct Try.prog 0 := CtR.tree 14 (List SetX) (fun x => [trT x, trT x]) (fun x => x.length ≤ 1000000000 ∧ ∀ y ∈ x, y.d.length ≤ 1000000000) (fun _ => .bool true) (fun a b h => by simp only [List.cons.injEq, and_true] at h; exact trT_inj h.1) (fun _ => rfl)
 (fun x h => by obtain ⟨r, hF, H, k, wr, rfl⟩ := zPg x h.1 h.2; exact ⟨_, _, _, _, hF, .one _ _ (.plain _ rfl)⟩)
end Go.Proofs.Ytblhnenhonfpnaa
namespace Go.Proofs.Ytblhnenhonfpnaa
open Go Go.RowKit
theorem zLs (l : Bs) : bs (mkB l) = l := by simp [bs, mkB]
theorem mkB_bs (b : ByteArray) : mkB (bs b) = b := zLn (by simp [bs, mkB])
theorem grp_gi {l : List RcX} (hok : ∀ x ∈ l, (labels (bs x.n)).2 = 0) : GI (l.map rcT) (gloop (l.map rcT)) :=
 gloop_gi _ (fun r hr => by obtain ⟨x, hx, rfl⟩ := List.mem_map.1 hr; exact hok x hx)
theorem zOl {l : List RcX} (hok : ∀ x ∈ l, (labels (bs x.n)).2 = 0) {s : SetX} (hs : s ∈ grp l) : ∃ st, st ∈ (gloop (l.map rcT)).1 ∧ s = setT st ∧ ∃ x ∈ l, x.n = s.n ∧ x.t = s.t ∧ x.c = s.c := by
 obtain ⟨st, h, rfl⟩ := List.mem_map.1 hs
 obtain ⟨r, hr, h1, h2⟩ := (grp_gi hok).nm st h
 obtain ⟨x, hx, rfl⟩ := List.mem_map.1 hr
 simp only [rkey, skey, Prod.mk.injEq] at h2
 refine ⟨st, h, rfl, x, hx, ?_, h2.2.1, h2.2.2⟩
 show x.n = mkB st.name
 rw [← h1]; exact (mkB_bs _).symm
theorem zMk {l : List RcX} (hok : ∀ x ∈ l, (labels (bs x.n)).2 = 0) (hn : l.length ≤ 40) (ht : ∀ x ∈ l, x.n.size ≤ 2000) {s : SetX} (hs : s ∈ grp l) : s.small := by
 obtain ⟨st, h, rfl, x, hx, h1, _⟩ := zOl hok hs
 have hd := zJt _ st h
 rw [List.length_map] at hd
 have := ht x hx
 refine ⟨Nat.ble_eq_true_of_le (by show (setT st).n.size ≤ _; rw [← h1]; omega), ?_⟩
 show (st.data.map mkB).length ≤ _
 rw [List.length_map]; omega
theorem recs_okR {l : List RcX} (hok : ∀ x ∈ l, (labels (bs x.n)).2 = 0) (hw : ∀ x ∈ l, okR x) {s : SetX} (hs : s ∈ grp l) {x : RcX} (hx : x ∈ s.recs) : okR x := by
 obtain ⟨st, h, e, y, hy, h1, h2, h3⟩ := zOl hok hs
 obtain ⟨d, hd, rfl⟩ := List.mem_map.1 hx
 have := hw y hy
 unfold okR at this ⊢
 rw [h1, h2, h3] at this
 exact this
theorem zLv {α : Type} {p : α → Bool} : ∀ (S : List α) (i : Nat) (s : α), S[i]? = some s → p s = true → (∀ j s', S[j]? = some s' → p s' = true → j = i) → (S.filter p).length = 1
 | [], i, s, h, _, _ => by simp at h
 | a :: S, 0, s, h, hp, hu => by
  simp only [List.getElem?_cons_zero, Option.some.injEq] at h
  subst h
  rw [List.filter_cons_of_pos hp, List.length_cons, show S.filter p = [] from List.filter_eq_nil_iff.2 (fun x hx hpx => by
   obtain ⟨j, hj, rfl⟩ := List.getElem_of_mem hx
   have := hu (j + 1) S[j] (by rw [List.getElem?_cons_succ, List.getElem?_eq_getElem hj]) hpx
   omega)]
  rfl
 | a :: S, i + 1, s, h, hp, hu => by
  rw [List.getElem?_cons_succ] at h
  have ha : ¬ p a = true := fun hpa => by have := hu 0 a rfl hpa; omega
  rw [List.filter_cons_of_neg ha]
  exact zLv S i s h hp (fun j s' hj hpj => by have := hu (j + 1) s' (by rw [List.getElem?_cons_succ]; exact hj) hpj; omega)
def fitsF (x : RcX) (s : SetX) : Bool := SetX.same ⟨x.n, x.t, x.c, 0, s.d⟩ s && (hasS s.d x.d && decide (s.ttl ≤ x.ttl))
def cntF (x : RcX) (L : List SetX) : Nat := (L.filter (fitsF x)).length
theorem grp_one {l : List RcX} (hok : ∀ x ∈ l, (labels (bs x.n)).2 = 0) {x : RcX} (hx : x ∈ l) : cntF x (grp l) = 1 := by
 have g := grp_gi hok
 have hr : rcT x ∈ l.map rcT := List.mem_map.2 ⟨x, hx, rfl⟩
 obtain ⟨i, hi⟩ := g.all _ hr
 obtain ⟨st, hst, hk⟩ := g.is _ _ hi
 have hm : st ∈ (gloop (l.map rcT)).1 := List.mem_of_getElem? hst
 refine zLv _ i (setT st) (by unfold grp; rw [List.getElem?_map, hst]; rfl) ?_ ?_
 ·unfold fitsF
  rw [Bool.and_eq_true, Bool.and_eq_true, zQq, zKy, decide_eq_true_iff]
  have hk2 := hk
  simp only [rkey, skey, Prod.mk.injEq] at hk2
  refine ⟨⟨hk2.2.1.symm, hk2.2.2.symm, ⟨hok x hx, ?_, ?_⟩, rfl, rfl⟩, ?_, ?_⟩
  ·show (labels (bs (mkB st.name))).2 = 0
   rw [zLs]; exact g.ok st hm
  ·show lower (bs x.n) = lower (bs (mkB st.name))
   rw [zLs]; exact hk2.1.symm
  ·show x.d ∈ st.data.map mkB
   exact List.mem_map.2 ⟨bs x.d, (g.mem st hm _).2 ⟨rcT x, hr, hk.symm, rfl⟩, mkB_bs _⟩
  ·exact (g.ttl st hm).2 _ hr hk.symm
 ·intro j s' hj hp
  unfold grp at hj
  rw [List.getElem?_map] at hj
  obtain ⟨st', hst', rfl⟩ := Option.map_eq_some_iff.1 hj
  unfold fitsF at hp
  rw [Bool.and_eq_true, zQq] at hp
  obtain ⟨⟨h1, h2, ⟨_, _, h3⟩, _⟩, _⟩ := hp
  have h3 : lower (bs x.n) = lower (bs (mkB st'.name)) := h3
  rw [zLs] at h3
  have hkk : skey st' = rkey (rcT x) := by
   show (lower st'.name, st'.type, st'.cls) = (lower (bs x.n), x.t, x.c)
   rw [h3, show x.t = st'.type from h1, show x.c = st'.cls from h2]
  have := g.key j st' hst'
  rw [hkk, hi] at this
  exact (Option.some.inj this).symm
theorem regroup (n : Bs) (t c ttl : Int) (hn : (labels n).2 = 0) (f : SK → Option Nat) (hf : f (lower n, t, c) = some 0) : ∀ (ds pre : List Bs), (pre ++ ds).Nodup → ((ds.map fun d => (⟨n, t, c, ttl, d⟩ : Rc)).foldl gstep ([⟨n, t, c, ttl, pre⟩], f)).1 = [⟨n, t, c, ttl, pre ++ ds⟩]
 | [], pre, _ => by rw [List.append_nil]; rfl
 | d :: ds, pre, h => by
  have hd : d ∉ pre := fun hm => by
   have := List.nodup_append.1 h
   exact this.2.2 d hm d (List.mem_cons_self ..) rfl
  have e : gstep ([⟨n, t, c, ttl, pre⟩], f) ⟨n, t, c, ttl, d⟩ = ([⟨n, t, c, ttl, pre ++ [d]⟩], f) := by
   have hf' : f (rkey (⟨n, t, c, ttl, d⟩ : Rc)) = some 0 := hf
   simp only [gstep, hf', hn, if_true, List.modify_zero_cons, addTo, if_neg hd, Int.min_self]
  rw [List.map_cons, List.foldl_cons, e, regroup n t c ttl hn f hf ds (pre ++ [d]) (by rw [List.append_assoc]; exact h), List.append_assoc]
  rfl
theorem grp_again {l : List RcX} (hok : ∀ x ∈ l, (labels (bs x.n)).2 = 0) {s : SetX} (hs : s ∈ grp l) : grp s.recs = [s] := by
 obtain ⟨st, h, rfl, _⟩ := zOl hok hs
 have g := grp_gi hok
 obtain ⟨hnd, hne⟩ := g.nd st h
 have hl := g.ok st h
 obtain ⟨n, t, c, ttl, ds⟩ := st
 have e : (setT ⟨n, t, c, ttl, ds⟩).recs.map rcT = ds.map fun d => (⟨n, t, c, ttl, d⟩ : Rc) := by
  show ((ds.map mkB).map fun d => (⟨mkB n, t, c, ttl, d⟩ : RcX)).map rcT = _
  rw [List.map_map, List.map_map]
  refine List.map_congr_left fun d _ => ?_
  show (⟨bs (mkB n), t, c, ttl, bs (mkB d)⟩ : Rc) = _
  rw [zLs, zLs]
 unfold grp
 rw [e]
 cases ds with
 | nil => exact absurd rfl hne
 | cons d ds =>
  have e2 : gloop ((d :: ds).map fun d => (⟨n, t, c, ttl, d⟩ : Rc)) = (ds.map fun d => (⟨n, t, c, ttl, d⟩ : Rc)).foldl gstep ([⟨n, t, c, ttl, [d]⟩], fun k => if k = (lower n, t, c) then some 0 else none) := rfl
  rw [e2, regroup n t c ttl hl _ (if_pos rfl) ds [d] hnd]
  rfl
end Go.Proofs.Ytblhnenhonfpnaa
namespace Go.Proofs.Ytblhnenhonfpnaa
open Go Go.RowKit
noncomputable def tbSpA : Tb Try.prog 0 := tbOf mixed [Ct.yes 6 zLa, zOa, zOc, ct_groupT, zRk, ct_hasL, ct_recsL, zLw]
theorem zOr {l : List RcX} (h : longR l 40 = false) : l.length ≤ 40 ∧ ∀ x ∈ l, x.n.size ≤ 2000 ∧ x.d.size ≤ 2000 := by
 unfold longR at h
 obtain ⟨h1, h2⟩ := Bool.or_eq_false_iff.1 h
 have h1 := of_decide_eq_false h1
 have h2 := of_decide_eq_false h2
 exact ⟨by omega, fun x hx => by have := zQy hx; omega⟩
theorem zQt {n : ByteArray} (h : n.size ≤ 2000) : shortB n = true := Nat.ble_eq_true_of_le (by show n.size ≤ _; omega)
theorem zJw (l : List RcX) : (grp l).length ≤ l.length := by
 unfold grp; rw [List.length_map]; exact Nat.le_trans (zMi _).1 (by rw [List.length_map]; exact Nat.le_refl _)
theorem sparts_fn (l : List RcX) (hl : fitR l) : ∃ r, FnS Try.prog 0 9 [trR l] .e 0 r ∧ ∃ H k wr, r = .ret (.bool true) H k wr := by
 refine zIa mixed tbSpA [] Try.func9 (c := bodyOf Try.f9) (by kernel_rfl) ?_
 refine Exists.intro (l, 40) (And.intro ⟨rfl, hl⟩ ?_)
 refine ifK (fun g => ?_) (fun g1 => ?_)
 ·exact ⟨_, _, _, rfl⟩
 obtain ⟨hn, ht⟩ := zOr (l := l) g1
 refine zBp (fun (i : Nat) f => ⟨slots 7 [(0, trR l), (3, .bool true), (4, .int .i64 (i : Nat))] f, heap 0 [], 0, [], []⟩) (fun i => l.length - i) (fun i => i ≤ l.length ∧ ∀ x ∈ l.take i, (labels (bs x.n)).2 = 0) 0 ⟨Nat.zero_le _, fun x hx => by simp at hx⟩ (rcq [] ⟨⟨_, rfl, zAa 8 rfl⟩, ⟨_, rfl, .bool _⟩, ⟨_, rfl, .int _ _⟩, trivial⟩ trivial .nil) ?_
 rintro i f ⟨hi, hok⟩
 refine zFv tbSpA [] 0 _ none mixed _ _ _ ?_
 refine ifK (fun h1 => ?_) (fun h1 => ?_)
 ·have h1 : i < l.length := by have h1 : ((i : Nat) : Int) < (l.length : Int) := of_decide_eq_true h1; omega
  refine ifK (fun _ => ?_) (fun h2 => absurd h2 (by simp [inI]; omega))
  refine Exists.intro l[i].n (Exists.intro l[i].t (Exists.intro l[i].c (Exists.intro l[i].ttl (Exists.intro l[i].d (And.intro (zBg layR h1) ?_)))))
  refine Exists.intro ⟨⟨l[i].n, 0, 0, 0, [emp]⟩, .slice (some ⟨0, 0, none⟩) 1 1⟩ (And.intro ⟨rfl, LtL.own layS (l := [emp]) [] (by decide) (.inr ⟨Nat.le_refl _, by decide⟩) (by kernel_rfl) rfl, zQt (ht _ (List.getElem_mem h1)).1⟩ ?_)
  refine ifK (fun g2 => ?_) (fun g2 => ?_)
  ·exact And.intro rfl (zBr (rcq [] (d := 7) (d2 := 0) (lv := [(2, .bool true)]) (bs := []) (W := []) (m := 0) (df := []) ⟨⟨_, rfl, .bool _⟩, trivial⟩ trivial .nil) (fun f => ⟨_, _, _, rfl⟩))
  ·have g2 : (SetX.chk ⟨l[i].n, 0, 0, 0, [emp]⟩ != 0) = false := g2
   have hlab : (labels (bs l[i].n)).2 = 0 := by
    have e := chk_one l[i].n
    rw [show (SetX.chk ⟨l[i].n, 0, 0, 0, [emp]⟩ == 0) = true by simpa [bne] using g2] at e
    exact of_decide_eq_true e.symm
   refine ⟨i + 1, ⟨h1, fun x hx => ?_⟩, by show l.length - (i + 1) < l.length - i; omega, rcq [] ⟨⟨_, rfl, zAa 8 rfl⟩, ⟨_, rfl, .bool _⟩, zAi rfl (by rw [wrapN (by omega) (by omega)]; omega), trivial⟩ trivial .nil⟩
   rw [List.take_succ_eq_append_getElem h1] at hx
   rcases List.mem_append.1 hx with hx | hx
   ·exact hok x hx
   ·rw [List.mem_singleton.1 hx]; exact hlab
 ·have h1 : ¬ i < l.length := by have h1 : ¬ ((i : Nat) : Int) < (l.length : Int) := of_decide_eq_false h1; omega
  rw [List.take_of_length_le (by omega)] at hok
  refine And.intro rfl (zBr (rcq [] (d := 7) (d2 := 0) (lv := [(0, trR l), (3, .bool true)]) (bs := []) (W := []) (m := 0) (df := []) ⟨⟨_, rfl, zAa 8 rfl⟩, ⟨_, rfl, .bool _⟩, trivial⟩ trivial .nil) (fun f => ?_))
  have hw : ∀ x ∈ l, okR x := fun x hx => ⟨by have := (ht x hx).1; omega, ((hl.2 x hx).2)⟩
  refine Exists.intro l (And.intro ⟨rfl, by omega, hw⟩ ?_)
  refine zBp (fun (i : Nat) f => ⟨slots 7 [(0, trR l), (3, .bool true), (5, trT (grp l)), (6, .int .i64 (i : Nat))] f, heap 0 [], 0, [], []⟩) (fun i => l.length - i) (fun i => i ≤ l.length) 0 (Nat.zero_le _) (rcq [] ⟨⟨_, rfl, zAa 8 rfl⟩, ⟨_, rfl, .bool _⟩, ⟨_, rfl, zAa 8 rfl⟩, ⟨_, rfl, .int _ _⟩, trivial⟩ trivial .nil) ?_
  clear hi
  intro i f hi
  have hi : i ≤ l.length := hi
  refine zFv tbSpA [] 0 _ none mixed _ _ _ ?_
  refine ifK (fun h1 => ?_) (fun h1 => ?_)
  ·have h1 : i < l.length := by have h1 : ((i : Nat) : Int) < (l.length : Int) := of_decide_eq_true h1; omega
   have hsm : ∀ s ∈ grp l, s.small := fun s hs => zMk (l := l) hok hn (fun x hx => (ht x hx).1) hs
   have hg : (grp l).length ≤ 40 := Nat.le_trans (zJw l) hn
   refine zBp (fun (k : Nat) f => ⟨slots 7 [(0, trR l), (3, .bool true), (5, trT (grp l)), (6, .int .i64 (i : Nat)), (7, .int .i64 (cntF l[i] ((grp l).take k) : Nat)), (8, .int .i64 (k : Nat))] f, heap 0 [], 0, [], []⟩) (fun k => (grp l).length - k) (fun k => k ≤ (grp l).length) 0 (Nat.zero_le _) ?_ ?_
   ·exact rcq [] ⟨⟨_, rfl, zAa 8 rfl⟩, ⟨_, rfl, .bool _⟩, ⟨_, rfl, zAa 8 rfl⟩, ⟨_, rfl, .int _ _⟩, ⟨_, rfl, .int _ _⟩, ⟨_, rfl, .int _ _⟩, trivial⟩ trivial .nil
   intro k f hk
   have hk : k ≤ (grp l).length := hk
   refine zFv tbSpA [] 0 _ none mixed _ _ _ ?_
   refine ifK (fun h3 => ?_) (fun h3 => ?_)
   ·have h3 : k < (grp l).length := by have h3 : ((k : Nat) : Int) < ((grp l).length : Int) := of_decide_eq_true h3; omega
    refine And.intro (by kernel_rfl) ?_
    refine ifK (fun _ => ?_) (fun h2 => absurd h2 (by simp [inI]; omega))
    refine Exists.intro l[i].n (Exists.intro l[i].t (Exists.intro l[i].c (Exists.intro l[i].ttl (Exists.intro l[i].d (And.intro (zBg layR h1) ?_)))))
    refine ifK (fun _ => ?_) (fun h2 => absurd h2 (by simp [inI]; omega))
    refine Exists.intro l[i].n (Exists.intro l[i].t (Exists.intro l[i].c (Exists.intro l[i].ttl (Exists.intro l[i].d (And.intro (zBg layR h1) ?_)))))
    refine ifK (fun _ => ?_) (fun h2 => absurd h2 (by simp [inI]; omega))
    refine Exists.intro l[i].n (Exists.intro l[i].t (Exists.intro l[i].c (Exists.intro l[i].ttl (Exists.intro l[i].d (And.intro (zBg layR h1) ?_)))))
    refine ifK (fun _ => ?_) (fun h2 => absurd h2 (by simp [inI]; omega))
    refine Exists.intro (grp l)[k].n (Exists.intro (grp l)[k].t (Exists.intro (grp l)[k].c (Exists.intro (grp l)[k].ttl (Exists.intro (trS (grp l)[k].d) (And.intro (zCk h3) ?_)))))
    have hst : cntF l[i] ((grp l).take (k + 1)) = cntF l[i] ((grp l).take k) + (if fitsF l[i] (grp l)[k] then 1 else 0) := by unfold cntF; rw [List.take_succ_eq_append_getElem h3, List.filter_append, List.length_append]; cases hq : fitsF l[i] (grp l)[k] <;> simp [hq]
    have hle : cntF l[i] ((grp l).take k) ≤ 40 := Nat.le_trans (List.length_filter_le _ _) (by rw [List.length_take]; omega)
    refine And.intro (by kernel_rfl) ?_
    refine ifK (fun _ => ?_) (fun h2 => absurd h2 (by simp [inI]; omega))
    refine Exists.intro (grp l)[k].n (Exists.intro (grp l)[k].t (Exists.intro (grp l)[k].c (Exists.intro (grp l)[k].ttl (Exists.intro (trS (grp l)[k].d) (And.intro (zCk h3) ?_)))))
    refine Exists.intro (SetX.lt ⟨l[i].n, l[i].t, l[i].c, 0, (grp l)[k].d⟩, (grp l)[k].lt) (And.intro ⟨rfl, ⟨.tree _ _ _, .tree _ _ _⟩, ⟨zQt (ht _ (List.getElem_mem h1)).1, (hsm _ (List.getElem_mem h3)).2⟩, hsm _ (List.getElem_mem h3)⟩ ?_)
    refine ifK (fun h4 => ?_) (fun h4 => ?_)
    ·have h4 : SetX.same ⟨l[i].n, l[i].t, l[i].c, 0, (grp l)[k].d⟩ (grp l)[k] = true := h4
     refine ifK (fun _ => ?_) (fun h2 => absurd h2 (by simp [inI]; omega))
     refine Exists.intro (grp l)[k].n (Exists.intro (grp l)[k].t (Exists.intro (grp l)[k].c (Exists.intro (grp l)[k].ttl (Exists.intro (trS (grp l)[k].d) (And.intro (zCk h3) ?_)))))
     refine ifK (fun _ => ?_) (fun h2 => absurd h2 (by simp [inI]; omega))
     refine Exists.intro l[i].n (Exists.intro l[i].t (Exists.intro l[i].c (Exists.intro l[i].ttl (Exists.intro l[i].d (And.intro (zBg layR h1) ?_)))))
     refine Exists.intro ((grp l)[k].d, l[i].d) (And.intro ⟨rfl, by have := (hsm _ (List.getElem_mem h3)).2; show (grp l)[k].d.length ≤ _; omega⟩ ?_)
     refine ifK (fun h5 => ?_) (fun h5 => ?_)
     ·have h5 : hasS (grp l)[k].d l[i].d = true := h5
      refine ifK (fun _ => ?_) (fun h2 => absurd h2 (by simp [inI]; omega))
      refine Exists.intro (grp l)[k].n (Exists.intro (grp l)[k].t (Exists.intro (grp l)[k].c (Exists.intro (grp l)[k].ttl (Exists.intro (trS (grp l)[k].d) (And.intro (zCk h3) ?_)))))
      refine ifK (fun _ => ?_) (fun h2 => absurd h2 (by simp [inI]; omega))
      refine Exists.intro l[i].n (Exists.intro l[i].t (Exists.intro l[i].c (Exists.intro l[i].ttl (Exists.intro l[i].d (And.intro (zBg layR h1) ?_)))))
      refine ifK (fun h6 => ?_) (fun h6 => ?_)
      ·have h6 : decide ((grp l)[k].ttl ≤ l[i].ttl) = true := h6
       rw [show fitsF l[i] (grp l)[k] = true by unfold fitsF; rw [h4, h5, h6]; rfl] at hst
       have hst : cntF l[i] ((grp l).take (k + 1)) = cntF l[i] ((grp l).take k) + 1 := hst
       exact ⟨k + 1, h3, by show (grp l).length - (k + 1) < (grp l).length - k; omega, rcq [] ⟨⟨_, rfl, zAa 8 rfl⟩, ⟨_, rfl, .bool _⟩, ⟨_, rfl, zAa 8 rfl⟩, ⟨_, rfl, .int _ _⟩, zAi rfl (by rw [wrapN (by omega) (by omega)]; omega), zAi rfl (by rw [wrapN (by omega) (by omega)]; omega), trivial⟩ trivial .nil⟩
      ·have h6 : decide ((grp l)[k].ttl ≤ l[i].ttl) = false := h6
       rw [show fitsF l[i] (grp l)[k] = false by unfold fitsF; rw [h4, h5, h6]; rfl] at hst
       have hst : cntF l[i] ((grp l).take (k + 1)) = cntF l[i] ((grp l).take k) := hst
       exact ⟨k + 1, h3, by show (grp l).length - (k + 1) < (grp l).length - k; omega, rcq [] ⟨⟨_, rfl, zAa 8 rfl⟩, ⟨_, rfl, .bool _⟩, ⟨_, rfl, zAa 8 rfl⟩, ⟨_, rfl, .int _ _⟩, zAi rfl (by rw [hst]), zAi rfl (by rw [wrapN (by omega) (by omega)]; omega), trivial⟩ trivial .nil⟩
     ·have h5 : hasS (grp l)[k].d l[i].d = false := h5
      rw [show fitsF l[i] (grp l)[k] = false by unfold fitsF; rw [h4, h5]; rfl] at hst
      have hst : cntF l[i] ((grp l).take (k + 1)) = cntF l[i] ((grp l).take k) := hst
      exact ⟨k + 1, h3, by show (grp l).length - (k + 1) < (grp l).length - k; omega, rcq [] ⟨⟨_, rfl, zAa 8 rfl⟩, ⟨_, rfl, .bool _⟩, ⟨_, rfl, zAa 8 rfl⟩, ⟨_, rfl, .int _ _⟩, zAi rfl (by rw [hst]), zAi rfl (by rw [wrapN (by omega) (by omega)]; omega), trivial⟩ trivial .nil⟩
    ·have h4 : SetX.same ⟨l[i].n, l[i].t, l[i].c, 0, (grp l)[k].d⟩ (grp l)[k] = false := h4
     rw [show fitsF l[i] (grp l)[k] = false by unfold fitsF; rw [h4]; rfl] at hst
     have hst : cntF l[i] ((grp l).take (k + 1)) = cntF l[i] ((grp l).take k) := hst
     exact ⟨k + 1, h3, by show (grp l).length - (k + 1) < (grp l).length - k; omega, rcq [] ⟨⟨_, rfl, zAa 8 rfl⟩, ⟨_, rfl, .bool _⟩, ⟨_, rfl, zAa 8 rfl⟩, ⟨_, rfl, .int _ _⟩, zAi rfl (by rw [hst]), zAi rfl (by rw [wrapN (by omega) (by omega)]; omega), trivial⟩ trivial .nil⟩
   ·have h3 : ¬ k < (grp l).length := by have h3 : ¬ ((k : Nat) : Int) < ((grp l).length : Int) := of_decide_eq_false h3; omega
    have hone : cntF l[i] ((grp l).take k) = 1 := by rw [List.take_of_length_le (by omega)]; exact grp_one hok (List.getElem_mem h1)
    refine And.intro rfl (zBr (rcq [] (d := 7) (d2 := 0) (lv := [(0, trR l), (3, .bool true), (5, trT (grp l)), (6, .int .i64 (i : Nat)), (7, .int .i64 1)]) (bs := []) (W := []) (m := 0) (df := []) ⟨⟨_, rfl, zAa 8 rfl⟩, ⟨_, rfl, .bool _⟩, ⟨_, rfl, zAa 8 rfl⟩, ⟨_, rfl, .int _ _⟩, zAi rfl (by rw [hone]; rfl), trivial⟩ trivial .nil) (fun f => ?_))
    exact ⟨i + 1, h1, by show l.length - (i + 1) < l.length - i; omega, rcq [] ⟨⟨_, rfl, zAa 8 rfl⟩, ⟨_, rfl, .bool _⟩, ⟨_, rfl, zAa 8 rfl⟩, zAi rfl (by rw [wrapN (by omega) (by omega)]; omega), trivial⟩ trivial .nil⟩
  ·refine And.intro rfl (zBr (rcq [] (d := 7) (d2 := 0) (lv := [(0, trR l), (3, .bool true), (5, trT (grp l))]) (bs := []) (W := []) (m := 0) (df := []) ⟨⟨_, rfl, zAa 8 rfl⟩, ⟨_, rfl, .bool _⟩, ⟨_, rfl, zAa 8 rfl⟩, trivial⟩ trivial .nil) (fun f => ?_))
   have hsm : ∀ s ∈ grp l, s.small := fun s hs => zMk (l := l) hok hn (fun x hx => (ht x hx).1) hs
   have hg : (grp l).length ≤ 40 := Nat.le_trans (zJw l) hn
   clear h1 hi
   refine zBp (fun (k : Nat) f => ⟨slots 7 [(3, .bool true), (5, trT (grp l)), (10, .int .i64 (k : Nat))] f, heap 0 [], 0, [], []⟩) (fun k => (grp l).length - k) (fun k => k ≤ (grp l).length) 0 (Nat.zero_le _) ?_ ?_
   ·exact rcq [] ⟨⟨_, rfl, .bool _⟩, ⟨_, rfl, zAa 8 rfl⟩, ⟨_, rfl, .int _ _⟩, trivial⟩ trivial .nil
   intro k f hk
   have hk : k ≤ (grp l).length := hk
   refine zFv tbSpA [] 0 _ none mixed _ _ _ ?_
   refine ifK (fun h3 => ?_) (fun h3 => ?_)
   ·have h3 : k < (grp l).length := by have h3 : ((k : Nat) : Int) < ((grp l).length : Int) := of_decide_eq_true h3; omega
    refine ifK (fun _ => ?_) (fun h2 => absurd h2 (by simp [inI]; omega))
    refine Exists.intro (grp l)[k].n (Exists.intro (grp l)[k].t (Exists.intro (grp l)[k].c (Exists.intro (grp l)[k].ttl (Exists.intro (trS (grp l)[k].d) (And.intro (zCk h3) ?_)))))
    refine Exists.intro (grp l)[k].lt (And.intro ⟨rfl, .tree _ _ _, (hsm _ (List.getElem_mem h3)).2⟩ ?_)
    refine Exists.intro (grp l)[k].recs (And.intro ⟨rfl, by rw [zFr]; exact (hsm _ (List.getElem_mem h3)).2, fun x hx => recs_okR hok hw (List.getElem_mem h3) hx⟩ ?_)
    have hgs : grp (grp l)[k].recs = [(grp l)[k]] := grp_again hok (List.getElem_mem h3)
    have hwk : IntKind.i64.wrap ((k : Int) + 1) = ((k + 1 : Nat) : Int) := by rw [wrapN (by omega) (by omega)]; omega
    refine And.intro (by rw [hwk]; simp [inLH]; omega) ?_
    refine Exists.intro 1 (Exists.intro ([(grp l)[k]].flatMap gS) (And.intro ⟨by rw [hwk]; omega, ?_⟩ ?_))
    ·show ((((grp l).flatMap gS).drop ((k : Int).toNat * 5)).take (1 * 5)) = gS (grp l)[k] ++ []
     rw [List.append_nil, Nat.one_mul]; exact zCk h3
    refine Exists.intro [(grp l)[k]] (And.intro ⟨by rw [hgs]; rfl, by show 1 ≤ _; omega, fun y hy => by rw [List.mem_singleton.1 hy]; have := (hsm _ (List.getElem_mem h3)).2; omega⟩ ?_)
    exact ⟨k + 1, h3, by show (grp l).length - (k + 1) < (grp l).length - k; omega, rcq [] ⟨⟨_, rfl, .bool _⟩, ⟨_, rfl, zAa 8 rfl⟩, zAi rfl (by rw [wrapN (by omega) (by omega)]; omega), trivial⟩ trivial .nil⟩
   ·exact And.intro rfl (zBr (rcq [] (d := 7) (d2 := 0) (lv := [(3, .bool true)]) (bs := []) (W := []) (m := 0) (df := []) ⟨⟨_, rfl, .bool _⟩, trivial⟩ trivial .nil) (fun f => ⟨_, _, _, rfl⟩))
end Go.Proofs.Ytblhnenhonfpnaa
