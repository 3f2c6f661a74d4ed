/- DERIVED. Texts put together: Ta3, So1. -/
import Derived.Test.YtblhnenhonfpnaaZ13
import Derived.Test.YtblhnenhonfpnaaZ20
import Derived.Test.YtblhnenhonfpnaaZ24
set_option maxRecDepth 1000000
set_option maxHeartbeats 32000000
namespace Go.Proofs.Ytblhnenhonfpnaa
open Go Go.Joins Go.ChangeShapes Go.WideShapes Go.RowKit Go.Deep
theorem zIb {H : Type} {P : Program} {e : TypeId} {d : DataW H} {q : Nat} (hq : q ∈ d.weights P e) : ∀ {l : List (DataW H)}, d ∈ l → q ∈ DataW.weightsAll P e l
 | x :: l, h => by
  unfold DataW.weightsAll
  rcases List.mem_cons.1 h with rfl | h
  ·exact List.mem_append_left _ hq
  ·exact List.mem_append_right _ (zIb hq h)
section
variable {P : Program} {H : Type} {enc : TypeId × Value → H} {w : World} {base : Nat} {spare : Nat → Bool} {held : Bool}
theorem zPu {α : Type} (L : Lay α) {r : Reach} {b0 : Nat} {t e : TypeId} {v : Value} {fuel R : Nat} {x : DataW H × List MemPlace} (Q : α → Prop) (ht : P.underlying t = some (.slice e)) (hC : P.cellsOf e = L.k)
  (hopen : ∀ n cs y, DataW.trod enc P w base spare held n e cs = some y → ∃ x, cs = L.g x) (hQ : ∀ n x y, DataW.trod enc P w base spare held n e (L.g x) = some y → (∀ q ∈ y.1.weights P e, q ≤ R) → Q x)
  (hv : Cell.okWide P w r b0 t v) (h : DataW.trod enc P w base spare held fuel t [v] = some x) (hpos : 0 < w.heap.size) (hw : ∀ n ∈ x.1.weights P t, n ≤ R) :
  ∃ y : WinL α, y.good L w ∧ y.l.length * P.bytesOf e ≤ R ∧ (∀ x ∈ y.l, Q x) ∧ ∀ (E : Env) (k : Nat), E.dom k → E.ρ k = y.b → E.sh k = y.off → VR E (y.sl k) v := by
 obtain ⟨y, h1, h2, h3⟩ := zPt L ht hC hopen hv h hpos hw
 refine ⟨y, h1, h2, ?_, h3⟩
 have hvr := h3 ⟨fun _ => True, fun _ => y.b, fun _ => 0, fun _ => 0, fun _ => y.off, fun _ => False, fun _ => none⟩ 0 trivial rfl rfl
 have hmx : maxLen = 9223372036854775807 := by decide
 intro z hz
 obtain ⟨i, hi, rfl⟩ := List.getElem_of_mem hz
 rcases open_slice ht h with ⟨h0, _⟩ | ⟨a, len, cap, m, n, D, Pl, hcs, _, hl, _, hm, hx, hel⟩
 ·simp only [List.cons.injEq, and_true] at h0
  subst h0
  have : y.l.length = 0 := Nat.le_zero.1 (zOv (b := 0) (o := 0) (c := y.c) hvr)
  omega
 ·simp only [List.cons.injEq, and_true] at hcs
  subst hcs
  have hle : y.l.length ≤ len := zOv (b := 0) (o := 0) (c := y.c) hvr
  have hlm : len ≤ m := by rw [hm]; split <;> omega
  have hab : a = ⟨y.b, y.off, none⟩ := by
   have hvr : VR ⟨fun _ => True, fun _ => y.b, fun _ => 0, fun _ => 0, fun _ => y.off, fun _ => False, fun _ => none⟩ (.slice (some ⟨0, 0, none⟩) y.l.length y.c) (.slice (some a) len cap) := hvr
   obtain ⟨_, ⟨_, e⟩ | ⟨hU, _⟩ | ⟨h0, _⟩⟩ := hvr.slice_inv
   ·simp only [Value.slice.injEq, Option.some.injEq] at e
    exact e.1
   ·obtain ⟨_, _, _, hc⟩ := h1
    have : U = 1180591620717411303424 := rfl
    omega
   ·omega
  subst hab
  obtain ⟨cs', q1, q2⟩ := hel i (by omega)
  obtain ⟨z', rfl⟩ := hopen _ _ _ q2
  obtain ⟨_, hcl, hat⟩ := World.cells?_some q1
  have hzz : z' = y.l[i] := by
   refine L.inj _ _ (List.ext_getElem? fun j => ?_)
   by_cases hj : j < L.k
   ·have e1 := hat j (by rw [hC]; exact hj)
    rw [← e1, zAf, zAf]
    obtain ⟨p1, p2⟩ := zJr L.g L.k L.len y.l i hi
    have e2 : (y.l.flatMap L.g)[i * L.k + j]? = (L.g y.l[i])[j]? := by rw [← p2, List.getElem?_take_of_lt hj, List.getElem?_drop]
    have e3 := List.getElem?_eq_getElem (l := L.g y.l[i]) (i := j) (by rw [L.len]; exact hj)
    rw [e3] at e2 ⊢
    have := h1.2.1 (i * L.k + j) _ e2
    rw [hC, Nat.add_assoc]; exact this
   ·rw [List.getElem?_eq_none (by rw [L.len]; omega), List.getElem?_eq_none (by rw [L.len]; omega)]
  rw [← hzz]
  refine hQ _ _ _ q2 fun q hq => hw q ?_
  rw [hx]
  show q ∈ DataW.weights P t (.slice _ _)
  unfold DataW.weights
  simp only [ht]
  refine List.mem_cons_of_mem _ (List.mem_append_left _ (zIb hq (List.mem_map.2 ⟨i, List.mem_range.2 (by omega), rfl⟩)))
end
section
variable {H : Type} {enc : TypeId × Value → H} {w : World} {base : Nat} {spare : Nat → Bool} {held : Bool}
theorem trod_sQ {n : Nat} {c : Value} {y : DataW H × List MemPlace} {R : Nat} (h : DataW.trod enc Try.prog w base spare held n 9 [c] = some y) (hw : ∀ q ∈ y.1.weights Try.prog 9, q ≤ R) : ∃ x : ByteArray, c = .string x ∧ x.size ≤ R := by
 obtain ⟨a, e, rfl, _⟩ := DataW.trod_string Try.underlying9 h
 simp only [List.cons.injEq, and_true] at e
 refine ⟨a, e, hw a.size ?_⟩
 show a.size ∈ DataW.weights Try.prog 9 (.lit (.string a.data.toList))
 unfold DataW.weights
 rw [Array.length_toList]
 exact List.mem_singleton.2 rfl
def seTypes : List TypeId := [9, 3, 3, 3, 30]
theorem bytes_s : Try.prog.bytesOf 9 = 16 := by kernel_rfl
theorem open_setT {r : Reach} {b0 : Nat} {v : Value} {d : DataW H} {p : List MemPlace} (hpos : 0 < w.heap.size) (hv : Value.okWide Try.prog w r b0 32 v) (h : DataW.Trod enc Try.prog w base spare held 32 v d p) (hw : ∀ n ∈ d.weights Try.prog 32, n ≤ reachBytes) :
  ∃ x : SetX, x.fit ∧ VR (Env.all w) x.v v := by
 obtain ⟨cs, rfl, hl, hf⟩ := zPs (ts := seTypes) Try.underlying32 (by kernel_rfl) (by kernel_rfl) (by kernel_rfl) hv h
 have h : ∀ (i : Nat) (u : TypeId) (c : Value), seTypes[i]? = some u → cs[i]? = some c → Cell.okWide Try.prog w r b0 u c ∧ ∃ k y, DataW.trod enc Try.prog w base spare held k u [c] = some y ∧ ∀ n ∈ y.1.weights Try.prog u, n ≤ reachBytes := fun i u c hu hc => by
  obtain ⟨q1, k, y, q2, q3⟩ := hf i u c hu hc
  exact ⟨q1, k, y, q2, fun n hn => hw n (q3 n hn)⟩
 match cs, hl with
 | [c0, c1, c2, c3, c4], _ =>
  obtain ⟨_, _, _, h0, w0⟩ := h 0 _ _ rfl rfl
  obtain ⟨_, _, _, h1, _⟩ := h 1 _ _ rfl rfl
  obtain ⟨_, _, _, h2, _⟩ := h 2 _ _ rfl rfl
  obtain ⟨_, _, _, h3, _⟩ := h 3 _ _ rfl rfl
  obtain ⟨o4, _, _, h4, w4⟩ := h 4 _ _ rfl rfl
  obtain ⟨x0, rfl, s0⟩ := trod_sQ h0 w0
  obtain ⟨x1, rfl⟩ := zNq h1
  obtain ⟨x2, rfl⟩ := zNq h2
  obtain ⟨x3, rfl⟩ := zNq h3
  have hR : reachBytes = 140737488351232 := by decide
  obtain ⟨q, g2, s2, hq, e2⟩ := zPu layS (fun s => s.size ≤ reachBytes) Try.underlying30 (by kernel_rfl) (fun _ _ _ hy => by
    obtain ⟨a, e, _⟩ := DataW.trod_string Try.underlying9 hy
    exact ⟨a, e⟩) (fun _ x y hy hw' => by
    obtain ⟨a, e, e2⟩ := trod_sQ (c := .string x) hy hw'
    cases e; exact e2) o4 h4 hpos w4
  have s2 : q.l.length * 16 ≤ reachBytes := bytes_s ▸ s2
  refine ⟨⟨x0, x1, x2, x3, q.l⟩, ⟨by show q.l.length ≤ _; omega, by show x0.size ≤ _; omega, fun s hs => by have := hq s hs; omega⟩,
   .agg _ _ (.cons _ _ _ _ (.string _) (.cons _ _ _ _ (.int _ _) (.cons _ _ _ _ (.int _ _) (.cons _ _ _ _ (.int _ _) (.cons _ _ _ _ (zQh layS g2 e2) .nil)))))⟩
end
end Go.Proofs.Ytblhnenhonfpnaa
namespace Go.Proofs.Ytblhnenhonfpnaa
open Go Go.RowKit
noncomputable def tbSo : Tb Try.prog 0 := tbOf mixed [Ct.yes 11 zJk, zPe, zMj, zPf, ct_lessT]
def emp : ByteArray := ⟨#[]⟩
theorem chk_one (n : ByteArray) : (SetX.chk ⟨n, 0, 0, 0, [emp]⟩ == 0) = decide ((labels (bs n)).2 = 0) := by
 unfold SetX.chk SetX.fine
 by_cases h : (labels (bs n)).2 = 0
 ·rw [decide_eq_true h]; rfl
 ·rw [decide_eq_false h]; rfl
theorem zFk {x : SetX} {m : Int} (hm : m ≤ 1000) (h : x.long m = false) : x.small := by
 unfold SetX.long at h
 obtain ⟨h1, h2⟩ := Bool.or_eq_false_iff.1 h
 have h1 := of_decide_eq_false h1
 have h2 := of_decide_eq_false h2
 refine ⟨Nat.ble_eq_true_of_le ?_, by omega⟩
 show x.n.size ≤ _
 omega
theorem order_fn (x y z : SetX) (hx : x.fit) (hy : y.fit) (hz : z.fit) : ∃ r, FnS Try.prog 0 7 [x.v, y.v, z.v] .e 0 r ∧ ∃ H k wr, r = .ret (.bool true) H k wr := by
 refine zPk mixed tbSo [] Try.func7 (c := bodyOf Try.f7) (by kernel_rfl) ?_
 refine Exists.intro (x, 20) (And.intro ⟨rfl, hx⟩ ?_)
 refine ifK (fun g => ?_) (fun g1 => ?_)
 ·exact ⟨_, _, _, rfl⟩
 refine Exists.intro (y, 20) (And.intro ⟨rfl, hy⟩ ?_)
 refine ifK (fun g => ?_) (fun g2 => ?_)
 ·exact ⟨_, _, _, rfl⟩
 refine Exists.intro (z, 20) (And.intro ⟨rfl, hz⟩ ?_)
 refine ifK (fun g => ?_) (fun g3 => ?_)
 ·exact ⟨_, _, _, rfl⟩
 have sx : x.small := zFk (m := 20) (by decide) g1
 have sy : y.small := zFk (m := 20) (by decide) g2
 have sz : z.small := zFk (m := 20) (by decide) g3
 refine Exists.intro ⟨⟨x.n, 0, 0, 0, [emp]⟩, .slice (some ⟨3, 0, none⟩) 1 1⟩ (And.intro ⟨rfl, LtL.own layS (l := [emp]) [] (by decide) (.inr ⟨Nat.le_refl _, by decide⟩) (by kernel_rfl) rfl, sx.1⟩ ?_)
 have hmay : x.same x = (SetX.chk ⟨x.n, 0, 0, 0, [emp]⟩ == 0) := by rw [same_self, chk_one]
 have hfin : ((x.less 1).same x == (SetX.chk ⟨x.n, 0, 0, 0, [emp]⟩ == 0)) = true := by rw [same_less, hmay]; simp
 refine And.intro (by kernel_rfl) ?_
 refine Exists.intro (x.lt, x.lt) (And.intro ⟨rfl, ⟨.tree _ _ _, .tree _ _ _⟩, sx, sx⟩ ?_)
 refine ifK (fun h => absurd (show (x.same x != (SetX.chk ⟨x.n, 0, 0, 0, [emp]⟩ == 0)) = true from h) (by rw [hmay]; simp)) (fun _ => ?_)
 refine Exists.intro (x.lt, y.lt) (And.intro ⟨rfl, ⟨.tree _ _ _, .tree _ _ _⟩, sx, sy⟩ ?_)
 refine Exists.intro (y.lt, x.lt) (And.intro ⟨rfl, ⟨.tree _ _ _, .tree _ _ _⟩, sy, sx⟩ ?_)
 refine ifK (fun h => absurd (show (x.same y != y.same x) = true from h) (by rw [same_sym]; simp)) (fun _ => ?_)
 refine Exists.intro (x.lt, y.lt) (And.intro ⟨rfl, ⟨.tree _ _ _, .tree _ _ _⟩, sx, sy⟩ ?_)
 refine ifK (fun h1 => ?_) (fun h1 => ?_)
 ·refine Exists.intro (y.lt, z.lt) (And.intro ⟨rfl, ⟨.tree _ _ _, .tree _ _ _⟩, sy, sz⟩ ?_)
  refine ifK (fun h2 => ?_) (fun h2 => ?_)
  ·refine Exists.intro (x.lt, z.lt) (And.intro ⟨rfl, ⟨.tree _ _ _, .tree _ _ _⟩, sx, sz⟩ ?_)
   refine ifK (fun h => absurd (show (!x.same z) = true from h) (by rw [show x.same z = true from zQb (show x.same y = true from h1) (show y.same z = true from h2)]; simp)) (fun _ => ?_)
   refine And.intro (by kernel_rfl) ?_
   refine Exists.intro (x, 1) (And.intro ⟨rfl, sx.2⟩ ?_)
   refine Exists.intro ((x.less 1).lt, x.lt) (And.intro ⟨rfl, ⟨.tree _ _ _, .tree _ _ _⟩, sx, sx⟩ ?_)
   exact ⟨_, _, _, congrArg (fun b => Res.ret (Value.bool b) _ _ _) hfin⟩
  ·refine And.intro (by kernel_rfl) ?_
   refine Exists.intro (x, 1) (And.intro ⟨rfl, sx.2⟩ ?_)
   refine Exists.intro ((x.less 1).lt, x.lt) (And.intro ⟨rfl, ⟨.tree _ _ _, .tree _ _ _⟩, sx, sx⟩ ?_)
   exact ⟨_, _, _, congrArg (fun b => Res.ret (Value.bool b) _ _ _) hfin⟩
 ·refine And.intro (by kernel_rfl) ?_
  refine Exists.intro (x, 1) (And.intro ⟨rfl, sx.2⟩ ?_)
  refine Exists.intro ((x.less 1).lt, x.lt) (And.intro ⟨rfl, ⟨.tree _ _ _, .tree _ _ _⟩, sx, sx⟩ ?_)
  exact ⟨_, _, _, congrArg (fun b => Res.ret (Value.bool b) _ _ _) hfin⟩
end Go.Proofs.Ytblhnenhonfpnaa
