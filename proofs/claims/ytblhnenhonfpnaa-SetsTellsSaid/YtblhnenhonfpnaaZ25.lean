/- DERIVED. Texts put together: Ta3, So1, Se1. -/
import Derived.Test.YtblhnenhonfpnaaZ12
import Derived.Test.YtblhnenhonfpnaaZ13
import Derived.Test.YtblhnenhonfpnaaZ20
import Derived.Test.YtblhnenhonfpnaaZ24
set_option maxRecDepth 1000000
set_option maxHeartbeats 32000000
namespace Go.Proofs.Ytblhnenhonfpnaa
open Go Go.Joins Go.ChangeShapes Go.WideShapes Go.RowKit Go.Deep
theorem zIr {H : Type} {P : Program} {e : TypeId} {d : DataW H} {q : Nat} (hq : q ∈ d.weights P e) : ∀ {l : List (DataW H)}, d ∈ l → q ∈ DataW.weightsAll P e l
 | x :: l, h => by
  unfold DataW.weightsAll
  rcases List.mem_cons.1 h with rfl | h
  ·exact List.mem_append_left _ hq
  ·exact List.mem_append_right _ (zIr hq h)
section
variable {P : Program} {H : Type} {enc : TypeId × Value → H} {w : World} {base : Nat} {spare : Nat → Bool} {held : Bool}
theorem zRc {α : Type} (L : Lay α) {r : Reach} {b0 : Nat} {t e : TypeId} {v : Value} {fuel R : Nat} {x : DataW H × List MemPlace} (Q : α → Prop) (ht : P.underlying t = some (.slice e)) (hC : P.cellsOf e = L.k)
  (hopen : ∀ n cs y, DataW.trod enc P w base spare held n e cs = some y → ∃ x, cs = L.g x) (hQ : ∀ n x y, DataW.trod enc P w base spare held n e (L.g x) = some y → (∀ q ∈ y.1.weights P e, q ≤ R) → Q x)
  (hv : Cell.okWide P w r b0 t v) (h : DataW.trod enc P w base spare held fuel t [v] = some x) (hpos : 0 < w.heap.size) (hw : ∀ n ∈ x.1.weights P t, n ≤ R) :
  ∃ y : WinL α, y.good L w ∧ y.l.length * P.bytesOf e ≤ R ∧ (∀ x ∈ y.l, Q x) ∧ ∀ (E : Env) (k : Nat), E.dom k → E.ρ k = y.b → E.sh k = y.off → VR E (y.sl k) v := by
 obtain ⟨y, h1, h2, h3⟩ := zRb L ht hC hopen hv h hpos hw
 refine ⟨y, h1, h2, ?_, h3⟩
 have hvr := h3 ⟨fun _ => True, fun _ => y.b, fun _ => 0, fun _ => 0, fun _ => y.off, fun _ => False, fun _ => none⟩ 0 trivial rfl rfl
 have hmx : maxLen = 9223372036854775807 := by decide
 intro z hz
 obtain ⟨i, hi, rfl⟩ := List.getElem_of_mem hz
 rcases open_slice ht h with ⟨h0, _⟩ | ⟨a, len, cap, m, n, D, Pl, hcs, _, hl, _, hm, hx, hel⟩
 ·simp only [List.cons.injEq, and_true] at h0
  subst h0
  have : y.l.length = 0 := Nat.le_zero.1 (zQf (b := 0) (o := 0) (c := y.c) hvr)
  omega
 ·simp only [List.cons.injEq, and_true] at hcs
  subst hcs
  have hle : y.l.length ≤ len := zQf (b := 0) (o := 0) (c := y.c) hvr
  have hlm : len ≤ m := by rw [hm]; split <;> omega
  have hab : a = ⟨y.b, y.off, none⟩ := by
   have hvr : VR ⟨fun _ => True, fun _ => y.b, fun _ => 0, fun _ => 0, fun _ => y.off, fun _ => False, fun _ => none⟩ (.slice (some ⟨0, 0, none⟩) y.l.length y.c) (.slice (some a) len cap) := hvr
   obtain ⟨_, ⟨_, e⟩ | ⟨hU, _⟩ | ⟨h0, _⟩⟩ := hvr.slice_inv
   ·simp only [Value.slice.injEq, Option.some.injEq] at e
    exact e.1
   ·obtain ⟨_, _, _, hc⟩ := h1
    have : U = 1180591620717411303424 := rfl
    omega
   ·omega
  subst hab
  obtain ⟨cs', q1, q2⟩ := hel i (by omega)
  obtain ⟨z', rfl⟩ := hopen _ _ _ q2
  obtain ⟨_, hcl, hat⟩ := World.cells?_some q1
  have hzz : z' = y.l[i] := by
   refine L.inj _ _ (List.ext_getElem? fun j => ?_)
   by_cases hj : j < L.k
   ·have e1 := hat j (by rw [hC]; exact hj)
    rw [← e1, zAi, zAi]
    obtain ⟨p1, p2⟩ := zKm L.g L.k L.len y.l i hi
    have e2 : (y.l.flatMap L.g)[i * L.k + j]? = (L.g y.l[i])[j]? := by rw [← p2, List.getElem?_take_of_lt hj, List.getElem?_drop]
    have e3 := List.getElem?_eq_getElem (l := L.g y.l[i]) (i := j) (by rw [L.len]; exact hj)
    rw [e3] at e2 ⊢
    have := h1.2.1 (i * L.k + j) _ e2
    rw [hC, Nat.add_assoc]; exact this
   ·rw [List.getElem?_eq_none (by rw [L.len]; omega), List.getElem?_eq_none (by rw [L.len]; omega)]
  rw [← hzz]
  refine hQ _ _ _ q2 fun q hq => hw q ?_
  rw [hx]
  show q ∈ DataW.weights P t (.slice _ _)
  unfold DataW.weights
  simp only [ht]
  refine List.mem_cons_of_mem _ (List.mem_append_left _ (zIr hq (List.mem_map.2 ⟨i, List.mem_range.2 (by omega), rfl⟩)))
end
section
variable {H : Type} {enc : TypeId × Value → H} {w : World} {base : Nat} {spare : Nat → Bool} {held : Bool}
theorem trod_sQ {n : Nat} {c : Value} {y : DataW H × List MemPlace} {R : Nat} (h : DataW.trod enc Try.prog w base spare held n 9 [c] = some y) (hw : ∀ q ∈ y.1.weights Try.prog 9, q ≤ R) : ∃ x : ByteArray, c = .string x ∧ x.size ≤ R := by
 obtain ⟨a, e, rfl, _⟩ := DataW.trod_string Try.underlying9 h
 simp only [List.cons.injEq, and_true] at e
 refine ⟨a, e, hw a.size ?_⟩
 show a.size ∈ DataW.weights Try.prog 9 (.lit (.string a.data.toList))
 unfold DataW.weights
 rw [Array.length_toList]
 exact List.mem_singleton.2 rfl
def seTypes : List TypeId := [9, 3, 3, 3, 30]
theorem bytes_s : Try.prog.bytesOf 9 = 16 := by kernel_rfl
theorem open_setT {r : Reach} {b0 : Nat} {v : Value} {d : DataW H} {p : List MemPlace} (hpos : 0 < w.heap.size) (hv : Value.okWide Try.prog w r b0 32 v) (h : DataW.Trod enc Try.prog w base spare held 32 v d p) (hw : ∀ n ∈ d.weights Try.prog 32, n ≤ reachBytes) :
  ∃ x : SetX, x.fit ∧ VR (Env.all w) x.v v := by
 obtain ⟨cs, rfl, hl, hf⟩ := zRa (ts := seTypes) Try.underlying32 (by kernel_rfl) (by kernel_rfl) (by kernel_rfl) hv h
 have h : ∀ (i : Nat) (u : TypeId) (c : Value), seTypes[i]? = some u → cs[i]? = some c → Cell.okWide Try.prog w r b0 u c ∧ ∃ k y, DataW.trod enc Try.prog w base spare held k u [c] = some y ∧ ∀ n ∈ y.1.weights Try.prog u, n ≤ reachBytes := fun i u c hu hc => by
  obtain ⟨q1, k, y, q2, q3⟩ := hf i u c hu hc
  exact ⟨q1, k, y, q2, fun n hn => hw n (q3 n hn)⟩
 match cs, hl with
 | [c0, c1, c2, c3, c4], _ =>
  obtain ⟨_, _, _, h0, w0⟩ := h 0 _ _ rfl rfl
  obtain ⟨_, _, _, h1, _⟩ := h 1 _ _ rfl rfl
  obtain ⟨_, _, _, h2, _⟩ := h 2 _ _ rfl rfl
  obtain ⟨_, _, _, h3, _⟩ := h 3 _ _ rfl rfl
  obtain ⟨o4, _, _, h4, w4⟩ := h 4 _ _ rfl rfl
  obtain ⟨x0, rfl, s0⟩ := trod_sQ h0 w0
  obtain ⟨x1, rfl⟩ := zOv h1
  obtain ⟨x2, rfl⟩ := zOv h2
  obtain ⟨x3, rfl⟩ := zOv h3
  have hR : reachBytes = 140737488351232 := by decide
  obtain ⟨q, g2, s2, hq, e2⟩ := zRc layS (fun s => s.size ≤ reachBytes) Try.underlying30 (by kernel_rfl) (fun _ _ _ hy => by
    obtain ⟨a, e, _⟩ := DataW.trod_string Try.underlying9 hy
    exact ⟨a, e⟩) (fun _ x y hy hw' => by
    obtain ⟨a, e, e2⟩ := trod_sQ (c := .string x) hy hw'
    cases e; exact e2) o4 h4 hpos w4
  have s2 : q.l.length * 16 ≤ reachBytes := bytes_s ▸ s2
  refine ⟨⟨x0, x1, x2, x3, q.l⟩, ⟨by show q.l.length ≤ _; omega, by show x0.size ≤ _; omega, fun s hs => by have := hq s hs; omega⟩,
   .agg _ _ (.cons _ _ _ _ (.string _) (.cons _ _ _ _ (.int _ _) (.cons _ _ _ _ (.int _ _) (.cons _ _ _ _ (.int _ _) (.cons _ _ _ _ (zRr layS g2 e2) .nil)))))⟩
end
end Go.Proofs.Ytblhnenhonfpnaa
namespace Go.Proofs.Ytblhnenhonfpnaa
open Go Go.RowKit
theorem zJm {x : SetX} {m : Int} (hm : m ≤ 1000) (h : x.long m = false) : x.small := by
 unfold SetX.long at h
 obtain ⟨h1, h2⟩ := Bool.or_eq_false_iff.1 h
 have h1 := of_decide_eq_false h1
 have h2 := of_decide_eq_false h2
 refine ⟨Nat.ble_eq_true_of_le ?_, by omega⟩
 show x.n.size ≤ _
 omega
end Go.Proofs.Ytblhnenhonfpnaa
namespace Go.Proofs.Ytblhnenhonfpnaa
open Go Go.RowKit
def overS (x : ByteArray) (l : List ByteArray) (i : Nat) : List ByteArray := List.replicate i x ++ l.drop i
theorem overS_set (x : ByteArray) (l : List ByteArray) (i : Nat) (h : i < l.length) : (overS x l i).set i x = overS x l (i + 1) := by
 unfold overS
 rw [List.set_append_right _ _ (by simp), List.length_replicate, Nat.sub_self, List.drop_eq_getElem_cons h, List.set_cons_zero, List.replicate_succ', List.append_assoc]; rfl
theorem zMb (x : ByteArray) (l : List ByteArray) (i : Nat) (h : i ≤ l.length) : (overS x l i).length = l.length := by
 unfold overS; rw [List.length_append, List.length_replicate, List.length_drop]; omega
def ovr : ByteArray := ⟨#[111, 118, 101, 114]⟩
theorem str_ty : TyIs Try.prog 9 1 16 (.string ⟨#[]⟩) := tyIs_of (by kernel_rfl)
def setC (n : ByteArray) (t c l : Int) (k m : Nat) : List Value := [.string n, .int .i64 t, .int .i64 c, .int .i64 l, .slice (some ⟨k, 0, none⟩) m U]
theorem zIb {σ : Nat → Nat → Prop} {n : ByteArray} {t c l : Int} {k k' m : Nat} {e : TypeId} (h : σ k k') : RO Try.prog σ (.cells (setC n t c l k m) e) (.cells (setC n t c l k' m) e) :=
 RO.cells _ [] _ _ (.cons _ _ _ _ (.string _) (.cons _ _ _ _ (.int _ _) (.cons _ _ _ _ (.int _ _) (.cons _ _ _ _ (.int _ _) (.cons _ _ _ _ (.sl _ _ _ _ _ h) .nil)))))
def setS (a : SetX) (n : Int) (w : Bool) (y : ByteArray) (r : List ByteArray) (i : Nat) (f : Nat → Option Value) : Fs :=
 ⟨slots 7 [(3, .pointer (some ⟨0, 0, none⟩)), (7, .pointer (some ⟨1, 0, none⟩)), (8, .pointer (some ⟨4, 0, none⟩)), (9, .bool true), (10, .bool w), (11, .int .i64 (i : Nat))] f,
  heap 3 [(0, .cells a.cs 32), (1, .cells (setC a.n a.t a.c a.ttl 2 (0 + a.d.length)) 32), (2, .cells (a.d.flatMap layS.g) 9), (3, .cells ((overS ovr (y :: r) i).flatMap layS.g) 9), (4, .cells (setC a.n a.t a.c (a.less n).ttl 3 (r.length + 1)) 32)], 5, [], []⟩
noncomputable def tbSe : Tb Try.prog 0 := tbOf mixed [Ct.yes 11 zKf, zQn, ct_lessN, zNm, zLm, ct_recsL, ct_rrecsT, zQo, ct_rlessT, zNl, zQq, zNk]
theorem stells_fn (a b : SetX) (n : Int) (ha : a.fit) (hb : b.fit) : ∃ r, FnS Try.prog 0 8 [a.v, b.v, .int .i64 n] .e 0 r ∧ ∃ H k wr, r = .ret (.bool true) H k wr := by
 have hby : (Try.prog.types[9]).bytes ≤ 100 := by decide +kernel
 refine zEd mixed tbSe [] Try.func8 (c := bodyOf Try.f8) (by kernel_rfl) ?_
 refine Exists.intro (a, 70) (And.intro ⟨rfl, ha⟩ ?_)
 refine ifK (fun g => ?_) (fun g1 => ?_)
 ·exact ⟨_, _, _, rfl⟩
 refine Exists.intro (b, 70) (And.intro ⟨rfl, hb⟩ ?_)
 refine ifK (fun g => ?_) (fun g2 => ?_)
 ·exact ⟨_, _, _, rfl⟩
 have sa : a.small := zJm (m := 70) (by decide) g1
 have sb : b.small := zJm (m := 70) (by decide) g2
 refine ifK (fun h0 => ?_) (fun h0 => ?_)
 ·have h0 : a.d = [] := List.eq_nil_of_length_eq_zero (Nat.eq_of_beq_eq_true h0)
  have atI : ∀ H : Tr AObj, LtT.at ⟨a, .slice (some ⟨3, 0, none⟩) 0 0⟩ H := fun H => .inr (.inr (.inr ⟨3, rfl, h0⟩))
  refine Exists.intro (⟨a, .slice (some ⟨3, 0, none⟩) 0 0⟩, n) (And.intro ⟨rfl, atI _, sa.2⟩ ?_)
  refine And.intro (fun _ => ?_) (fun y r e => absurd (h0.symm.trans e) (by simp))
  have atX : ∀ H : Tr AObj, LtT.at ⟨a.less n, trS []⟩ H := fun H => by show LtL layS H (trS []) a.d; rw [h0]; exact .tree _ _ _
  refine And.intro (by kernel_rfl) ?_
  refine Exists.intro ⟨a, .slice (some ⟨3, 0, none⟩) 0 0⟩ (And.intro ⟨rfl, atI _, sa.1⟩ ?_)
  refine Exists.intro a (And.intro ⟨rfl, sa.1⟩ ?_)
  refine ifK (fun _ => ?_) (fun h => absurd (show (a.chk == a.chk) = false from h) (by simp))
  refine Exists.intro ⟨a, .slice (some ⟨3, 0, none⟩) 0 0⟩ (And.intro ⟨rfl, atI _, sa.2⟩ ?_)
  refine Exists.intro a (And.intro ⟨rfl, sa.2⟩ ?_)
  refine Exists.intro (a.recs, a.recs) (And.intro ⟨rfl, by show a.recs.length ≤ _; rw [zBu]; have := sa.2; omega⟩ ?_)
  refine ifK (fun _ => ?_) (fun h => absurd (show decide (a.recs = a.recs) = false from h) (by simp))
  refine Exists.intro (a, n) (And.intro ⟨rfl, sa.2⟩ ?_)
  refine Exists.intro ⟨a.less n, trS []⟩ (And.intro ⟨rfl, atX _, by show a.d.length ≤ _; have := sa.2; omega⟩ ?_)
  refine And.intro (by kernel_rfl) ?_
  refine Exists.intro (⟨a, .slice (some ⟨3, 0, none⟩) 0 0⟩, b.lt) (And.intro ⟨rfl, ⟨atI _, .tree _ _ _⟩, sa, sb⟩ ?_)
  refine Exists.intro (a, b) (And.intro ⟨rfl, sa, sb⟩ ?_)
  refine ifK (fun _ => ?_) (fun h => absurd (show (a.same b == a.same b) = false from h) (by simp))
  refine Exists.intro (b.lt, ⟨a, .slice (some ⟨3, 0, none⟩) 0 0⟩) (And.intro ⟨rfl, ⟨.tree _ _ _, atI _⟩, sb, sa⟩ ?_)
  refine Exists.intro (b, a) (And.intro ⟨rfl, sb, sa⟩ ?_)
  refine LW.round (zEe tbSe [] 0 _ none mixed _ _ _ ?_)
  refine ifK (fun _ => ?_) (fun h => absurd (show (b.same a == b.same a) = false from h) (by simp))
  refine Exists.intro ⟨a, .slice (some ⟨3, 0, none⟩) 0 0⟩ (And.intro ⟨rfl, atI _, by show a.d.length ≤ _; have := sa.2; omega⟩ ?_)
  exact ⟨_, _, _, rfl⟩
 ·have hne : a.d ≠ [] := fun q => by rw [q] at h0; exact absurd h0 (by decide)
  refine And.intro (by simp only [Bool.and_eq_true, decide_eq_true_eq, Nat.zero_add]; have := Nat.mul_le_mul sa.2 hby; have := sa.2; and_intros <;> omega) ?_
  have atI : ∀ H : Tr AObj, H.get 4 = some (.cells (a.d.flatMap layS.g) 9) → LtT.at ⟨a, .slice (some ⟨4, 0, none⟩) (0 + a.d.length) U⟩ H := fun H h => by
   show LtL layS H (.slice (some ⟨4, 0, none⟩) (0 + a.d.length) U) a.d
   rw [Nat.zero_add]; exact LtL.own layS [] (by decide) (.inl rfl) h (by rw [List.append_nil])
  refine Exists.intro (⟨a, .slice (some ⟨4, 0, none⟩) (0 + a.d.length) U⟩, n) (And.intro ⟨rfl, atI _ (by kernel_rfl), sa.2⟩ ?_)
  refine And.intro (fun e => absurd e hne) (fun y r e => ?_)
  have e : a.d = y :: r := e
  have atX : ∀ H : Tr AObj, H.get 5 = some (.cells ((y :: r).flatMap layS.g) 9) → LtT.at ⟨a.less n, .slice (some ⟨5, 0, none⟩) (r.length + 1) U⟩ H := fun H h => by
   show LtL layS H _ a.d
   rw [e]; exact LtL.own layS (l := y :: r) [] (by decide) (.inl rfl) h (by rw [List.append_nil])
  refine And.intro (by kernel_rfl) ?_
  refine Exists.intro ⟨a, .slice (some ⟨4, 0, none⟩) (0 + a.d.length) U⟩ (And.intro ⟨rfl, atI _ (by kernel_rfl), sa.1⟩ ?_)
  refine Exists.intro a (And.intro ⟨rfl, sa.1⟩ ?_)
  refine ifK (fun _ => ?_) (fun h => absurd (show (a.chk == a.chk) = false from h) (by simp))
  refine Exists.intro ⟨a, .slice (some ⟨4, 0, none⟩) (0 + a.d.length) U⟩ (And.intro ⟨rfl, atI _ (by kernel_rfl), sa.2⟩ ?_)
  refine Exists.intro a (And.intro ⟨rfl, sa.2⟩ ?_)
  refine Exists.intro (a.recs, a.recs) (And.intro ⟨rfl, by show a.recs.length ≤ _; rw [zBu]; have := sa.2; omega⟩ ?_)
  refine ifK (fun _ => ?_) (fun h => absurd (show decide (a.recs = a.recs) = false from h) (by simp))
  refine Exists.intro (a, n) (And.intro ⟨rfl, sa.2⟩ ?_)
  refine Exists.intro ⟨a.less n, .slice (some ⟨5, 0, none⟩) (r.length + 1) U⟩ (And.intro ⟨rfl, atX _ (by kernel_rfl), by show a.d.length ≤ _; have := sa.2; omega⟩ ?_)
  refine And.intro (by kernel_rfl) ?_
  refine Exists.intro (⟨a, .slice (some ⟨4, 0, none⟩) (0 + a.d.length) U⟩, b.lt) (And.intro ⟨rfl, ⟨atI _ (by kernel_rfl), .tree _ _ _⟩, sa, sb⟩ ?_)
  refine Exists.intro (a, b) (And.intro ⟨rfl, sa, sb⟩ ?_)
  refine ifK (fun _ => ?_) (fun h => absurd (show (a.same b == a.same b) = false from h) (by simp))
  refine Exists.intro (b.lt, ⟨a, .slice (some ⟨4, 0, none⟩) (0 + a.d.length) U⟩) (And.intro ⟨rfl, ⟨.tree _ _ _, atI _ (by kernel_rfl)⟩, sb, sa⟩ ?_)
  refine Exists.intro (b, a) (And.intro ⟨rfl, sb, sa⟩ ?_)
  refine zBg (setS a n (b.same a == b.same a) y r) (fun i => r.length + 1 - i) (fun i => i ≤ r.length + 1) 0 (Nat.zero_le _) (rcq [0, 2, 4, 5, 6] (d := 7) (d2 := 3) (bs := [(0, .cells a.cs 32), (1, .cells (setC a.n a.t a.c a.ttl 2 (0 + a.d.length)) 32), (2, .cells (a.d.flatMap layS.g) 9), (3, .cells ((overS ovr (y :: r) 0).flatMap layS.g) 9), (4, .cells (setC a.n a.t a.c (a.less n).ttl 3 (r.length + 1)) 32)]) (m := 5) ⟨⟨_, rfl, .ptr _ _ _ rfl⟩, ⟨_, rfl, .ptr _ _ _ rfl⟩, ⟨_, rfl, .ptr _ _ _ rfl⟩, ⟨_, rfl, .bool _⟩, ⟨_, rfl, .bool _⟩, ⟨_, rfl, .int _ _⟩, trivial⟩ ⟨⟨by decide, _, rfl, RO.clos rfl⟩, ⟨by decide, _, rfl, zIb rfl⟩, bpo (zAb layS.g layS.plain _), bpo (zAb layS.g layS.plain _), ⟨by decide, _, rfl, zIb rfl⟩, trivial⟩ .nil) ?_
  intro i f hi
  have hi : i ≤ r.length + 1 := hi
  have hr : r.length + 1 ≤ 1000000 := by have := sa.2; rw [e] at this; exact this
  refine zEe tbSe [3, 900003] 0 _ none mixed _ _ _ ?_
  refine ifK (fun h1 => ?_) (fun h1 => ?_)
  ·have h1 : i < r.length + 1 := by have h1 : ((i : Nat) : Int) < ((r.length + 1 : Nat) : Int) := of_decide_eq_true h1; omega
   have hol : (overS ovr (y :: r) i).length = r.length + 1 := zMb ovr (y :: r) i hi
   refine ifK (fun _ => ?_) (fun h2 => absurd h2 (by simp [inI]; omega))
   refine Exists.intro undef (Exists.intro [((3 : Nat), some (AObj.cells ((overS ovr (y :: r) (i + 1)).flatMap layS.g) 9))] (Exists.intro (0 : Nat) (And.intro ?_ ?_)))
   ·refine aop_store (b := 3) (off := 0 + i * 1) (sz := 1) (bytes := 16) (z := .string ⟨#[]⟩) (v := .string ovr) (C := (overS ovr (y :: r) i).flatMap layS.g) rfl ?_ rfl rfl str_ty rfl rfl ?_ ?_
    ·show Value.pointer _ = _
     rw [show (Try.prog.types[9]).size = 1 by kernel_rfl]; rfl
    ·rw [zAc layS.g layS.k layS.len, hol]
     show 0 + i * 1 + 1 ≤ (r.length + 1) * 1
     omega
    ·have := flat_set layS [] [] (overS ovr (y :: r) i) i ovr (by rw [hol]; exact h1)
     rw [overS_set ovr (y :: r) i h1] at this
     simp only [List.nil_append, List.append_nil, List.length_nil] at this
     exact this
   exact ⟨i + 1, h1, by show r.length + 1 - (i + 1) < r.length + 1 - i; omega, rcq [0, 1, 2, 3, 4] ⟨⟨_, rfl, .ptr _ _ _ rfl⟩, ⟨_, rfl, .ptr _ _ _ rfl⟩, ⟨_, rfl, .ptr _ _ _ rfl⟩, ⟨_, rfl, .bool _⟩, ⟨_, rfl, .bool _⟩, zAl rfl (by rw [wrapN (by omega) (by omega)]; omega), trivial⟩ ⟨⟨by decide, _, rfl, RO.clos rfl⟩, ⟨by decide, _, rfl, zIb rfl⟩, bpo (zAb layS.g layS.plain _), bpo (zAb layS.g layS.plain _), ⟨by decide, _, rfl, zIb rfl⟩, trivial⟩ .nil⟩
  ·refine And.intro rfl (zAz (rcq [0, 1, 2] (d := 7) (d2 := 2) (lv := [(3, .pointer (some ⟨0, 0, none⟩)), (7, .pointer (some ⟨1, 0, none⟩)), (9, .bool true), (10, .bool (b.same a == b.same a))]) (bs := [(0, .cells a.cs 32), (1, .cells (setC a.n a.t a.c a.ttl 2 (0 + a.d.length)) 32), (2, .cells (a.d.flatMap layS.g) 9)]) (W := []) (m := 3) (df := []) ⟨⟨_, rfl, .ptr _ _ _ rfl⟩, ⟨_, rfl, .ptr _ _ _ rfl⟩, ⟨_, rfl, .bool _⟩, ⟨_, rfl, .bool _⟩, trivial⟩ ⟨⟨by decide, _, rfl, RO.clos rfl⟩, ⟨by decide, _, rfl, zIb rfl⟩, bpo (zAb layS.g layS.plain _), trivial⟩ .nil) (fun f => ?_))
   refine ifK (fun _ => ?_) (fun h => absurd (show (b.same a == b.same a) = false from h) (by simp))
   have atJ : ∀ H : Tr AObj, H.get 2 = some (.cells (a.d.flatMap layS.g) 9) → LtT.at ⟨a, .slice (some ⟨2, 0, none⟩) (0 + a.d.length) U⟩ H := fun H h => by
    show LtL layS H (.slice (some ⟨2, 0, none⟩) (0 + a.d.length) U) a.d
    rw [Nat.zero_add]; exact LtL.own layS [] (by decide) (.inl rfl) h (by rw [List.append_nil])
   refine Exists.intro ⟨a, .slice (some ⟨2, 0, none⟩) (0 + a.d.length) U⟩ (And.intro ⟨rfl, atJ _ (by kernel_rfl), by show a.d.length ≤ _; have := sa.2; omega⟩ ?_)
   exact ⟨_, _, _, rfl⟩
end Go.Proofs.Ytblhnenhonfpnaa
