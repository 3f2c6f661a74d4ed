/- DERIVED. Texts put together: St1, St2, St3, St4, St5, St6, St7, St8, St9, St10. -/
import Derived.Test.YtblhnenhonfpnaaZ12
import Derived.Test.YtblhnenhonfpnaaZ15
import Derived.Test.YtblhnenhonfpnaaZ19
set_option maxRecDepth 1000000
set_option maxHeartbeats 32000000
namespace Go.Proofs.Ytblhnenhonfpnaa
open Go Go.RowKit
structure SetX where
 n : ByteArray
 t : Int
 c : Int
 ttl : Int
 d : List ByteArray
def SetX.cs (x : SetX) : List Value := [.string x.n, .int .i64 x.t, .int .i64 x.c, .int .i64 x.ttl, trS x.d]
def SetX.v (x : SetX) : Value := .agg #[.string x.n, .int .i64 x.t, .int .i64 x.c, .int .i64 x.ttl, trS x.d]
theorem SetX.v_inj {a b : SetX} (h : a.v = b.v) : a = b := by
 obtain ⟨n, t, c, l, d⟩ := a
 obtain ⟨n', t', c', l', d'⟩ := b
 simp only [SetX.v, Value.agg.injEq, Array.mk.injEq, List.cons.injEq, Value.int.injEq, Value.string.injEq, true_and, and_true] at h
 obtain ⟨rfl, rfl, rfl, rfl, h⟩ := h
 have := zBy layS h
 subst this; rfl
def totS : List ByteArray → Nat
 | [] => 0
 | x :: l => totS l + x.size
theorem totS_take {l : List ByteArray} {i : Nat} (h : i < l.length) : totS (l.take (i + 1)) = totS (l.take i) + l[i].size := by
 induction l generalizing i with
 | nil => cases h
 | cons o l ih =>
  cases i with
  | zero => rfl
  | succ i =>
   have h' : i < l.length := by simpa using h
   have := ih (i := i) h'
   show totS (l.take (i + 1)) + _ = (totS (l.take i) + _) + _
   rw [this]
   show _ = totS (l.take i) + o.size + (l[i]'h').size
   omega
theorem totS_pre {l : List ByteArray} (i : Nat) : totS (l.take i) ≤ totS l := by
 induction l generalizing i with
 | nil => rw [List.take_nil]; exact Nat.le_refl _
 | cons o l ih => cases i with
  | zero => exact Nat.zero_le _
  | succ i => have := ih i; show totS (l.take i) + _ ≤ totS l + _; omega
def SetX.long (x : SetX) (most : Int) : Bool := decide ((x.d.length : Int) > most) || decide (2000 < x.n.size + totS x.d)
noncomputable def tbSt0 : Tb Try.prog 0 := tbOf mixed []
theorem zQy (x : SetX) (most : Int) (hl : x.d.length ≤ 9000000000000) (hb : x.n.size ≤ 140737488355328 ∧ ∀ s ∈ x.d, s.size ≤ 140737488355328) : ∃ r, FnS Try.prog 0 28 [x.v, .int .i64 most] .e 0 r ∧ ∃ H m wr, r = .ret (.bool (x.long most)) H m wr := by
 refine zEd mixed tbSt0 [] Try.func28 (c := bodyOf Try.f28) (by kernel_rfl) ?_
 obtain ⟨hb1, hb2⟩ := hb
 refine zBg (fun (i : Nat) f => ⟨slots 6 [(1, .int .i64 most), (2, .pointer (some ⟨0, 0, none⟩)), (5, .int .i64 ((x.n.size + totS (x.d.take i) : Nat) : Int)), (6, .int .i64 (i : Nat))] f, heap 1 [(0, .cells x.cs 32)], 1, [], []⟩) (fun i => x.d.length - i) (fun i => i ≤ x.d.length ∧ x.n.size + totS (x.d.take i) ≤ 281474976720656) 0 ⟨Nat.zero_le _, by show x.n.size + 0 ≤ _; omega⟩ (rcq [0] ⟨⟨_, rfl, .int _ _⟩, ⟨_, rfl, .ptr _ _ _ rfl⟩, ⟨_, rfl, .int _ _⟩, ⟨_, rfl, .int _ _⟩, trivial⟩ ⟨⟨by decide, _, rfl, RO.clos rfl⟩, trivial⟩ .nil) ?_
 rintro i f ⟨hi, hs⟩
 have fin : ∀ (h9 : x.d.length ≤ i ∨ 2000 < x.n.size + totS (x.d.take i)), decide (((x.n.size + totS (x.d.take i) : Nat) : Int) > 2000) = decide (2000 < x.n.size + totS x.d) := fun h9 => by
  have hp := totS_pre (l := x.d) i
  rcases h9 with h9 | h9
  ·rw [List.take_of_length_le h9]
   by_cases h : 2000 < x.n.size + totS x.d
   ·rw [decide_eq_true h, decide_eq_true (by omega)]
   ·rw [decide_eq_false h, decide_eq_false (by omega)]
  ·rw [decide_eq_true (show 2000 < x.n.size + totS x.d by omega), decide_eq_true (by omega)]
 refine zEe tbSt0 [] 0 _ none mixed _ _ _ ?_
 refine ifK (fun h1 => ?_) (fun h1 => ?_)
 ·have h1 : i < x.d.length := by have h1 : ((i : Nat) : Int) < (x.d.length : Int) := of_decide_eq_true h1; omega
  refine ifK (fun h2 => ?_) (fun h2 => ?_)
  ·have h2 : x.n.size + totS (x.d.take i) ≤ 2000 := by have h2 : ((x.n.size + totS (x.d.take i) : Nat) : Int) ≤ 2000 := of_decide_eq_true h2; omega
   have hx := hb2 x.d[i] (List.getElem_mem h1)
   have ht := totS_take h1
   refine ifK (fun _ => ?_) (fun h2 => absurd h2 (by simp [inI]; omega))
   refine Exists.intro x.d[i] (And.intro (zAy layS h1) ?_)
   have hw : IntKind.i64.wrap (((x.n.size + totS (x.d.take i) : Nat) : Int) + (x.d[i].data.size : Int)) = ((x.n.size + totS (x.d.take (i + 1)) : Nat) : Int) := by
    have hx' : x.d[i].data.size ≤ 140737488355328 := hx
    have ht' : totS (x.d.take (i + 1)) = totS (x.d.take i) + x.d[i].data.size := ht
    rw [wrapN (by omega) (by omega)]; omega
   exact ⟨i + 1, ⟨h1, by show x.n.size + totS (x.d.take (i + 1)) ≤ _; omega⟩, by show x.d.length - (i + 1) < x.d.length - i; omega, rcq [0] ⟨⟨_, rfl, .int _ _⟩, ⟨_, rfl, .ptr _ _ _ rfl⟩, zAl rfl hw, zAl rfl (by rw [wrapN (by omega) (by omega)]; omega), trivial⟩ ⟨⟨by decide, _, rfl, RO.clos rfl⟩, trivial⟩ .nil⟩
  ·have h2 : 2000 < x.n.size + totS (x.d.take i) := by have h2 : ¬ ((x.n.size + totS (x.d.take i) : Nat) : Int) ≤ 2000 := of_decide_eq_false h2; omega
   refine And.intro rfl (zAz (rcq [0] (d := 6) (d2 := 1) (lv := [(1, .int .i64 most), (2, .pointer (some ⟨0, 0, none⟩)), (5, .int .i64 ((x.n.size + totS (x.d.take i) : Nat) : Int))]) (bs := [(0, .cells x.cs 32)]) (W := []) (m := 1) (df := []) ⟨⟨_, rfl, .int _ _⟩, ⟨_, rfl, .ptr _ _ _ rfl⟩, ⟨_, rfl, .int _ _⟩, trivial⟩ ⟨⟨by decide, _, rfl, RO.clos rfl⟩, trivial⟩ .nil) (fun f => ?_))
   refine ifK (fun h3 => ?_) (fun h3 => ?_)
   ·rw [show x.long most = true by unfold SetX.long; rw [show decide ((x.d.length : Int) > most) = true from h3]; rfl]
    exact ⟨_, _, _, rfl⟩
   ·rw [show x.long most = decide (((x.n.size + totS (x.d.take i) : Nat) : Int) > 2000) by unfold SetX.long; rw [show decide ((x.d.length : Int) > most) = false from h3, fin (.inr h2)]; rfl]
    exact ⟨_, _, _, rfl⟩
 ·have h1 : ¬ i < x.d.length := by have h1 : ¬ ((i : Nat) : Int) < (x.d.length : Int) := of_decide_eq_false h1; omega
  refine And.intro rfl (zAz (rcq [0] (d := 6) (d2 := 1) (lv := [(1, .int .i64 most), (2, .pointer (some ⟨0, 0, none⟩)), (5, .int .i64 ((x.n.size + totS (x.d.take i) : Nat) : Int))]) (bs := [(0, .cells x.cs 32)]) (W := []) (m := 1) (df := []) ⟨⟨_, rfl, .int _ _⟩, ⟨_, rfl, .ptr _ _ _ rfl⟩, ⟨_, rfl, .int _ _⟩, trivial⟩ ⟨⟨by decide, _, rfl, RO.clos rfl⟩, trivial⟩ .nil) (fun f => ?_))
  refine ifK (fun h3 => ?_) (fun h3 => ?_)
  ·rw [show x.long most = true by unfold SetX.long; rw [show decide ((x.d.length : Int) > most) = true from h3]; rfl]
   exact ⟨_, _, _, rfl⟩
  ·rw [show x.long most = decide (((x.n.size + totS (x.d.take i) : Nat) : Int) > 2000) by unfold SetX.long; rw [show decide ((x.d.length : Int) > most) = false from h3, fin (.inl (by omega))]; rfl]
   exact ⟨_, _, _, rfl⟩
end Go.Proofs.Ytblhnenhonfpnaa
namespace Go.Proofs.Ytblhnenhonfpnaa
open Go Go.RowKit
theorem equalS_tr (a b : List ByteArray) (hl : a.length ≤ 1000000000) : ∃ r, FnS Try.prog 0 46 [trS a, trS b] .e 0 r ∧ ∃ H m wr, r = .ret (.bool (decide (a = b))) H m wr := by
 refine zEd mixed tbSt0 [] Try.func46 (c := bodyOf Try.f46) (by kernel_rfl) ?_
 refine ifK (fun g => ?_) (fun g => ?_)
 ·have g : ((a.length : Int) != (b.length : Int)) = true := g
  rw [show decide (a = b) = false from decide_eq_false (fun e => by subst e; simp at g)]
  exact ⟨_, _, _, rfl⟩
 have g : ((a.length : Int) != (b.length : Int)) = false := g
 have hlen : a.length = b.length := by simp at g; omega
 refine zBg (fun (i : Nat) f => ⟨slots 5 [(1, trS b), (11, trS a), (12, .int .i64 (a.length : Nat)), (13, .int .i64 (i : Nat)), (0, trS a)] f, heap 0 [], 0, [], []⟩) (fun i => a.length - i) (fun i => i ≤ a.length ∧ a.take i = b.take i) 0 ⟨Nat.zero_le _, rfl⟩ (rcq [] ⟨⟨_, rfl, zAg 8 rfl⟩, ⟨_, rfl, zAg 8 rfl⟩, ⟨_, rfl, .int _ _⟩, ⟨_, rfl, .int _ _⟩, ⟨_, rfl, zAg 8 rfl⟩, trivial⟩ trivial .nil) ?_
 rintro i f ⟨hi, heq⟩
 refine zEe tbSt0 [] 0 _ none mixed _ _ _ ?_
 refine ifK (fun h1 => ?_) (fun h1 => ?_)
 ·have h1 : i < a.length := by have h1 : ((i : Nat) : Int) < (a.length : Int) := of_decide_eq_true h1; omega
  have h2 : i < b.length := by omega
  refine And.intro (by kernel_rfl) ?_
  refine ifK (fun _ => ?_) (fun h2 => absurd h2 (by simp [inI]; omega))
  refine Exists.intro a[i] (And.intro (zAy layS h1) ?_)
  refine ifK (fun _ => ?_) (fun h2 => absurd h2 (by simp [inI]; omega))
  refine Exists.intro b[i] (And.intro (zAy layS h2) ?_)
  refine ifK (fun h3 => ?_) (fun h3 => ?_)
  ·have h3 : (!(a[i].data.toList == b[i].data.toList)) = true := h3
   have e : decide (a = b) = false := decide_eq_false (fun e => by rw [zHt h1 h2 e] at h3; simp at h3)
   refine And.intro rfl (zAz (rcq [] (d := 5) (d2 := 0) (lv := [(4, .bool false)]) (bs := []) (W := []) (m := 0) (df := []) ⟨⟨_, rfl, zBi 8 rfl⟩, trivial⟩ trivial .nil) (fun f => ?_))
   rw [e]; exact ⟨_, _, _, rfl⟩
  ·have h3 : (!(a[i].data.toList == b[i].data.toList)) = false := h3
   have h3 : a[i].data.toList = b[i].data.toList := by simpa using h3
   exact ⟨i + 1, ⟨h1, zIo h1 h2 heq (zGi h3)⟩, by show a.length - (i + 1) < a.length - i; omega, rcq [] ⟨⟨_, rfl, zAg 8 rfl⟩, ⟨_, rfl, zAg 8 rfl⟩, ⟨_, rfl, .int _ _⟩, zAl rfl (by rw [wrapN (by omega) (by omega)]; omega), ⟨_, rfl, zAg 8 rfl⟩, trivial⟩ trivial .nil⟩
 ·have h1 : ¬ i < a.length := by have h1 : ¬ ((i : Nat) : Int) < (a.length : Int) := of_decide_eq_false h1; omega
  have e : a = b := by have := heq; rwa [List.take_of_length_le (by omega), List.take_of_length_le (by omega)] at this
  refine And.intro rfl (zAz (rcq [] (d := 5) (d2 := 0) (lv := []) (bs := []) (W := []) (m := 0) (df := []) trivial trivial .nil) (fun f => ?_))
  rw [decide_eq_true e]; exact ⟨_, _, _, rfl⟩
structure LtS where
 l : List ByteArray
 v : Value
noncomputable def ct_equalL : Ct Try.prog 0 := CtR.lend 46 (LtS × LtS) (fun x => [x.1.v, x.2.v]) (fun x H => LtL layS H x.1.v x.1.l ∧ LtL layS H x.2.v x.2.l) (fun x => [trS x.1.l, trS x.2.l]) (fun x => x.1.l.length ≤ 1000000000) (fun x => .bool (decide (x.1.l = x.2.l)))
 (fun x y H e h k => by
  obtain ⟨⟨l, v⟩, ⟨l2, v2⟩⟩ := x
  obtain ⟨⟨m, u⟩, ⟨m2, u2⟩⟩ := y
  simp only [List.cons.injEq, and_true] at e
  obtain ⟨rfl, rfl⟩ := e
  have e1 : l = m := h.1.uniq k.1
  have e2 : l2 = m2 := h.2.uniq k.2
  subst e1; subst e2; rfl) (fun x H h => .cons _ _ _ _ (h.1.frz (by kernel_rfl)) (.cons _ _ _ _ (h.2.frz (by kernel_rfl)) .nil))
 (fun x hf => by obtain ⟨r, hF, H, k, wr, rfl⟩ := equalS_tr x.1.l x.2.l hf; exact ⟨_, _, _, _, hF, .one _ _ (.plain _ rfl)⟩)
def SetX.same (a b : SetX) : Bool := (a.t == b.t) && (a.c == b.c) && zBf (bs a.n) (bs b.n) && (a.d.length == b.d.length) && decide (sortS a.d = sortS b.d)
noncomputable def tbSm : Tb Try.prog 0 := tbOf mixed [ct_same, zPd, ct_sort, ct_equalL]
def SetX.small (x : SetX) : Prop := shortB x.n = true ∧ x.d.length ≤ 1000000
theorem zRl (a b : SetX) (ha : a.small) (hb : b.small) : ∃ r, FnS Try.prog 0 22 [a.v, b.v] .e 0 r ∧ ∃ H m wr, r = .ret (.bool (a.same b)) H m wr := by
 obtain ⟨a1, a2⟩ := ha
 obtain ⟨b1, b2⟩ := hb
 refine zEd mixed tbSm [] Try.func22 (c := bodyOf Try.f22) (by kernel_rfl) ?_
 refine ifK (fun h => ?_) (fun h => ?_)
 ·have h : (a.t != b.t) = true := h
  rw [show a.same b = false by unfold SetX.same; rw [show (a.t == b.t) = false by simpa [bne] using h]; rfl]
  exact ⟨_, _, _, rfl⟩
 have h1 : (a.t == b.t) = true := by have h : (a.t != b.t) = false := h; simpa [bne] using h
 refine ifK (fun h => ?_) (fun h => ?_)
 ·have h : (a.c != b.c) = true := h
  rw [show a.same b = false by unfold SetX.same; rw [show (a.c == b.c) = false by simpa [bne] using h]; simp]
  exact ⟨_, _, _, rfl⟩
 have h2 : (a.c == b.c) = true := by have h : (a.c != b.c) = false := h; simpa [bne] using h
 refine And.intro (by rw [a1, b1]; rfl) ?_
 refine ifK (fun h => ?_) (fun h => ?_)
 ·have h : (!zBf (bs a.n) (bs b.n)) = true := h
  rw [show a.same b = false by unfold SetX.same; rw [show zBf (bs a.n) (bs b.n) = false by simpa using h]; simp]
  exact ⟨_, _, _, rfl⟩
 have h3 : zBf (bs a.n) (bs b.n) = true := by have h : (!zBf (bs a.n) (bs b.n)) = false := h; simpa using h
 refine ifK (fun h => ?_) (fun h => ?_)
 ·have h : ((a.d.length : Int) != (b.d.length : Int)) = true := h
  rw [show a.same b = false by unfold SetX.same; rw [show (a.d.length == b.d.length) = false by simp at h ⊢; omega]; simp]
  exact ⟨_, _, _, rfl⟩
 have h4 : a.d.length = b.d.length := by have h : ((a.d.length : Int) != (b.d.length : Int)) = false := h; simp at h; omega
 rw [show a.same b = decide (sortS a.d = sortS b.d) by unfold SetX.same; rw [h1, h2, h3, h4]; simp]
 refine And.intro (by kernel_rfl) ?_
 refine Exists.intro a.d (And.intro ⟨rfl, a2⟩ ?_)
 refine And.intro (fun e => ?_) (fun x r e => ?_)
 ·refine Exists.intro b.d (And.intro ⟨rfl, b2⟩ ?_)
  refine And.intro (fun e2 => ?_) (fun x2 r2 e2 => ?_)
  ·rw [show decide (sortS a.d = sortS b.d) = true by rw [show a.d = [] from e, show b.d = [] from e2]; exact decide_eq_true rfl]
   refine Exists.intro () (And.intro rfl ?_)
   refine Exists.intro () (And.intro rfl ?_)
   refine Exists.intro (⟨[], trS []⟩, ⟨[], trS []⟩) (And.intro ⟨rfl, ⟨.tree _ _ _, .tree _ _ _⟩, Nat.zero_le _⟩ ?_)
   exact ⟨_, _, _, rfl⟩
  ·rw [e, e2] at h4; cases h4
 ·refine Exists.intro b.d (And.intro ⟨rfl, b2⟩ ?_)
  refine And.intro (fun e2 => ?_) (fun x2 r2 e2 => ?_)
  ·rw [e, e2] at h4; cases h4
  ·have e : a.d = x :: r := e
   have e2 : b.d = x2 :: r2 := e2
   rw [e, e2]
   rw [e] at a2
   rw [e2] at b2
   have own : ∀ (y : ByteArray) (q : List ByteArray) (k : Nat) (H : Tr AObj), k < JJ → H.get k = some (.cells ((sortS (y :: q)).flatMap layS.g) 9) → LtL layS H (.slice (some ⟨k, 0, none⟩) (q.length + 1) U) (sortS (y :: q)) := fun y q k H hk h => by
    have := LtL.own (L := layS) (c := U) (l := sortS (y :: q)) [] hk (.inl rfl) h (by rw [List.append_nil])
    rw [zMr] at this
    exact this
   refine Exists.intro (x :: r, 2) (And.intro ⟨rfl, ⟨by simp, a2⟩, by kernel_rfl⟩ ?_)
   refine Exists.intro (x2 :: r2, 3) (And.intro ⟨rfl, ⟨by simp, b2⟩, by kernel_rfl⟩ ?_)
   refine Exists.intro (⟨sortS (x :: r), .slice (some ⟨2, 0, none⟩) (r.length + 1) U⟩, ⟨sortS (x2 :: r2), .slice (some ⟨3, 0, none⟩) (r2.length + 1) U⟩) (And.intro ⟨rfl, ⟨own x r 2 _ (by decide) (by kernel_rfl), own x2 r2 3 _ (by decide) (by kernel_rfl)⟩, by show (sortS (x :: r)).length ≤ _; rw [zMr]; omega⟩ ?_)
   exact ⟨_, _, _, rfl⟩
end Go.Proofs.Ytblhnenhonfpnaa
namespace Go.Proofs.Ytblhnenhonfpnaa
open Go Go.RowKit
noncomputable def zQv : Ct Try.prog 0 := Ct.inl (tbOf mixed []) mixed [] 42 Try.f42 Try.func42 (bodyOf Try.f42) (by kernel_rfl)
def okK (seen : List ByteArray) : List ByteArray → Bool
 | [] => true
 | d :: r => !hasS seen d && (decide (d.size ≤ 65535) && okK (seen ++ [d]) r)
def SetX.fine (x : SetX) : Bool := decide ((labels (bs x.n)).2 = 0) && (decide (x.t ≥ 0) && (decide (x.t ≤ 65535) && (decide (x.c ≥ 0) && (decide (x.c ≤ 65535) && (decide (x.ttl ≥ 0) && (decide (x.ttl < 2147483648) && (decide (x.d.length ≥ 1) && decide (x.d.length ≤ 64))))))))
def SetX.chk (x : SetX) : Int := if x.fine then (if okK [] x.d then 0 else 2) else 2
noncomputable def tbSc : Tb Try.prog 0 := tbOf mixed [ct_check, zQv]
theorem zOp (x : SetX) (hx : shortB x.n = true) : ∃ r, FnS Try.prog 0 20 [x.v] .e 0 r ∧ ∃ H m wr, r = .ret (.int .i64 x.chk) H m wr := by
 have bad : x.fine = false → x.chk = 2 := fun h => by unfold SetX.chk; rw [h]; rfl
 refine zEd mixed tbSc [] Try.func20 (c := bodyOf Try.f20) (by kernel_rfl) ?_
 refine And.intro hx ?_
 refine ifK (fun h => ?_) (fun g1 => ?_)
 ·have h : ((labels (bs x.n)).2 != 0) = true := h
  rw [bad (by unfold SetX.fine; rw [decide_eq_false (by simpa using h)]; rfl)]
  exact ⟨_, _, _, rfl⟩
 have g1 : decide ((labels (bs x.n)).2 = 0) = true := by have g1 : ((labels (bs x.n)).2 != 0) = false := g1; simpa using g1
 refine ifK (fun g2 => ?_) (fun h => ?_)
 rotate_left
 ·rw [bad (by unfold SetX.fine; rw [show decide (x.t ≥ 0) = false from h]; simp)]
  exact ⟨_, _, _, rfl⟩
 refine ifK (fun h => ?_) (fun g3 => ?_)
 ·have h : (!decide (x.t ≤ 65535)) = true := h
  rw [bad (by unfold SetX.fine; rw [show decide (x.t ≤ 65535) = false by simpa using h]; simp)]
  exact ⟨_, _, _, rfl⟩
 have g3 : decide (x.t ≤ 65535) = true := by have g3 : (!decide (x.t ≤ 65535)) = false := g3; simpa using g3
 refine ifK (fun g4 => ?_) (fun h => ?_)
 rotate_left
 ·rw [bad (by unfold SetX.fine; rw [show decide (x.c ≥ 0) = false from h]; simp)]
  exact ⟨_, _, _, rfl⟩
 refine ifK (fun h => ?_) (fun g5 => ?_)
 ·have h : (!decide (x.c ≤ 65535)) = true := h
  rw [bad (by unfold SetX.fine; rw [show decide (x.c ≤ 65535) = false by simpa using h]; simp)]
  exact ⟨_, _, _, rfl⟩
 have g5 : decide (x.c ≤ 65535) = true := by have g5 : (!decide (x.c ≤ 65535)) = false := g5; simpa using g5
 refine ifK (fun h => ?_) (fun g6 => ?_)
 ·have h : decide (x.ttl < 0) = true := h
  rw [bad (by unfold SetX.fine; rw [show decide (x.ttl ≥ 0) = false by have := of_decide_eq_true h; exact decide_eq_false (by omega)]; simp)]
  exact ⟨_, _, _, rfl⟩
 have g6 : decide (x.ttl ≥ 0) = true := by have g6 : decide (x.ttl < 0) = false := g6; have := of_decide_eq_false g6; exact decide_eq_true (by omega)
 refine ifK (fun h => ?_) (fun g7 => ?_)
 ·have h : decide (x.ttl ≥ 2147483648) = true := h
  rw [bad (by unfold SetX.fine; rw [show decide (x.ttl < 2147483648) = false by have := of_decide_eq_true h; exact decide_eq_false (by omega)]; simp)]
  exact ⟨_, _, _, rfl⟩
 have g7 : decide (x.ttl < 2147483648) = true := by have g7 : decide (x.ttl ≥ 2147483648) = false := g7; have := of_decide_eq_false g7; exact decide_eq_true (by omega)
 refine ifK (fun h => ?_) (fun g8 => ?_)
 ·have h : decide ((x.d.length : Int) < 1) = true := h
  rw [bad (by unfold SetX.fine; rw [show decide (x.d.length ≥ 1) = false by have := of_decide_eq_true h; exact decide_eq_false (by omega)]; simp)]
  exact ⟨_, _, _, rfl⟩
 have g8 : decide (x.d.length ≥ 1) = true := by have g8 : decide ((x.d.length : Int) < 1) = false := g8; have := of_decide_eq_false g8; exact decide_eq_true (by omega)
 refine ifK (fun h => ?_) (fun g9 => ?_)
 ·have h : decide ((x.d.length : Int) > 64) = true := h
  rw [bad (by unfold SetX.fine; rw [show decide (x.d.length ≤ 64) = false by have := of_decide_eq_true h; exact decide_eq_false (by omega)]; simp)]
  exact ⟨_, _, _, rfl⟩
 have g9 : decide (x.d.length ≤ 64) = true := by have g9 : decide ((x.d.length : Int) > 64) = false := g9; have := of_decide_eq_false g9; exact decide_eq_true (by omega)
 have hl : x.d.length ≤ 64 := of_decide_eq_true g9
 have fine : x.fine = true := by unfold SetX.fine; rw [g1, show decide (x.t ≥ 0) = true from g2, g3, show decide (x.c ≥ 0) = true from g4, g5, g6, g7, g8, g9]; rfl
 rw [show x.chk = if okK [] x.d then 0 else 2 by unfold SetX.chk; rw [fine]; rfl]
 refine zBg (fun (i : Nat) f => ⟨slots 7 [(4, .map (some 0)), (51, trS x.d), (52, .int .i64 (x.d.length : Nat)), (53, .int .i64 (i : Nat))] f, heap 1 [(0, .map (encK (x.d.take i)) i)], 1, [], []⟩) (fun i => x.d.length - i) (fun i => i ≤ x.d.length ∧ (x.d.take i).Nodup ∧ okK [] x.d = okK (x.d.take i) (x.d.drop i)) 0 ⟨Nat.zero_le _, by simp, rfl⟩ (rcq [1] ⟨⟨_, rfl, .map _ _ rfl⟩, ⟨_, rfl, zAg 8 rfl⟩, ⟨_, rfl, .int _ _⟩, ⟨_, rfl, .int _ _⟩, trivial⟩ ⟨⟨by decide, _, rfl, met_ro [] 0⟩, trivial⟩ .nil) ?_
 rintro i f ⟨hi, hnd, heq⟩
 refine zEe tbSc [900005, 900006] 0 _ none mixed _ _ _ ?_
 refine ifK (fun h1 => ?_) (fun h1 => ?_)
 ·have h1 : i < x.d.length := by have h1 : ((i : Nat) : Int) < (x.d.length : Int) := of_decide_eq_true h1; omega
  have hst : okK (x.d.take i) (x.d.drop i) = (!hasS (x.d.take i) x.d[i] && (decide (x.d[i].size ≤ 65535) && okK (x.d.take (i + 1)) (x.d.drop (i + 1)))) := by rw [List.drop_eq_getElem_cons h1, List.take_succ_eq_append_getElem h1]; rfl
  rw [hst] at heq
  refine ifK (fun _ => ?_) (fun h2 => absurd h2 (by simp [inI]; omega))
  refine Exists.intro x.d[i] (And.intro (zAy layS h1) ?_)
  cases hm : hasS (x.d.take i) x.d[i] with
  | true =>
   have hmem := zPl.1 hm
   rw [show okK [] x.d = false by rw [heq, hm]; rfl]
   refine Exists.intro (.tuple #[.agg #[], .bool true]) (Exists.intro [] (Exists.intro 0 (And.intro (aop_metY (e := 62) (l := x.d.take i) rfl rfl rfl (by kernel_rfl) rfl hnd hmem) ?_)))
   exact And.intro rfl (zAz (rcq [] (d := 7) (d2 := 0) (lv := [(2, .int .i64 2)]) (bs := []) (W := []) (m := 0) (df := []) ⟨⟨_, rfl, .int _ _⟩, trivial⟩ trivial .nil) (fun f => ⟨_, _, _, rfl⟩))
  | false =>
   have hmem : x.d[i] ∉ x.d.take i := fun h => by rw [zPl.2 h] at hm; cases hm
   rw [hm] at heq
   refine Exists.intro (.tuple #[.agg #[], .bool false]) (Exists.intro [] (Exists.intro 0 (And.intro (aop_metN (e := 62) (l := x.d.take i) rfl rfl rfl (by kernel_rfl) (by kernel_rfl) rfl hmem) ?_)))
   refine ifK (fun h3 => ?_) (fun h3 => ?_)
   ·have h3 : decide ((x.d[i].data.size : Int) > 65535) = true := h3
    have h3 : (x.d[i].size : Int) > 65535 := of_decide_eq_true h3
    rw [show okK [] x.d = false by rw [heq, show decide (x.d[i].size ≤ 65535) = false from decide_eq_false (by omega)]; rfl]
    exact And.intro rfl (zAz (rcq [] (d := 7) (d2 := 0) (lv := [(2, .int .i64 2)]) (bs := []) (W := []) (m := 0) (df := []) ⟨⟨_, rfl, .int _ _⟩, trivial⟩ trivial .nil) (fun f => ⟨_, _, _, rfl⟩))
   ·have h3 : decide ((x.d[i].data.size : Int) > 65535) = false := h3
    have h3 : ¬ (x.d[i].size : Int) > 65535 := of_decide_eq_false h3
    rw [show decide (x.d[i].size ≤ 65535) = true from decide_eq_true (by omega)] at heq
    refine Exists.intro undef (Exists.intro [(0, some (.map (encK (x.d.take i ++ [x.d[i]])) (i + 1)))] (Exists.intro 0 (And.intro (aop_meet (e := 62) (l := x.d.take i) rfl rfl rfl rfl (by kernel_rfl) rfl hmem) ?_)))
    have htk : x.d.take (i + 1) = x.d.take i ++ [x.d[i]] := List.take_succ_eq_append_getElem h1
    refine ⟨i + 1, ⟨h1, ?_, heq⟩, by show x.d.length - (i + 1) < x.d.length - i; omega, rcq [0] ⟨⟨_, rfl, .map _ _ rfl⟩, ⟨_, rfl, zAg 8 rfl⟩, ⟨_, rfl, .int _ _⟩, zAl rfl (by rw [wrapN (by omega) (by omega)]; omega), trivial⟩ ⟨⟨by decide, _, rfl, by rw [htk]; exact met_ro _ _⟩, trivial⟩ .nil⟩
    rw [htk, List.nodup_append]
    exact ⟨hnd, by simp, fun a ha b hb => by simp at hb; subst hb; exact fun e => hmem (by rw [← e]; exact ha)⟩
 ·have h1 : ¬ i < x.d.length := by have h1 : ¬ ((i : Nat) : Int) < (x.d.length : Int) := of_decide_eq_false h1; omega
  rw [show okK [] x.d = true by rw [heq, List.drop_eq_nil_of_le (by omega)]; rfl]
  refine And.intro rfl (zAz (rcq [] (d := 7) (d2 := 0) (lv := []) (bs := []) (W := []) (m := 0) (df := []) trivial trivial .nil) (fun f => ?_))
  exact ⟨_, _, _, rfl⟩
end Go.Proofs.Ytblhnenhonfpnaa
namespace Go.Proofs.Ytblhnenhonfpnaa
open Go Go.RowKit
structure LtT where
 x : SetX
 d : Value
def LtT.v (y : LtT) : Value := .agg #[.string y.x.n, .int .i64 y.x.t, .int .i64 y.x.c, .int .i64 y.x.ttl, y.d]
def LtT.at (y : LtT) (H : Tr AObj) : Prop := LtL layS H y.d y.x.d
theorem LtT.uniq {x y : LtT} {H : Tr AObj} (q : x.v = y.v) (h : x.at H) (k : y.at H) : x = y := by
 obtain ⟨⟨n, t, c, l, d⟩, v⟩ := x
 obtain ⟨⟨n', t', c', l', d'⟩, v'⟩ := y
 simp only [LtT.v, Value.agg.injEq, Array.mk.injEq, List.cons.injEq, Value.int.injEq, Value.string.injEq, true_and, and_true] at q
 obtain ⟨rfl, rfl, rfl, rfl, rfl⟩ := q
 have e1 : d = d' := LtL.uniq h k
 subst e1; rfl
theorem LtT.frz {x : LtT} {H : Tr AObj} (h : x.at H) : FrzP True Try.prog 0 H x.v x.x.v :=
 .agg _ _ (.cons _ _ _ _ (.one _ _ (.plain _ rfl)) (.cons _ _ _ _ (.one _ _ (.plain _ rfl)) (.cons _ _ _ _ (.one _ _ (.plain _ rfl)) (.cons _ _ _ _ (.one _ _ (.plain _ rfl)) (.cons _ _ _ _ (LtL.frz (by kernel_rfl) h) .nil)))))
def SetX.lt (x : SetX) : LtT := ⟨x, trS x.d⟩
theorem SetX.lt_at (x : SetX) (H : Tr AObj) : x.lt.at H := .tree _ _ _
theorem zQb {a b : SetX} (h : [a.v] = [b.v]) : a = b := SetX.v_inj (by simpa using h)
noncomputable def zNm : Ct Try.prog 0 := CtR.lend 20 LtT (fun x => [x.v]) LtT.at (fun x => [x.x.v]) (fun x => shortB x.x.n = true) (fun x => .int .i64 x.x.chk) (fun _ _ _ e h k => LtT.uniq (by simpa using e) h k) (fun _ _ h => .cons _ _ _ _ (LtT.frz h) .nil)
 (fun x h => by obtain ⟨r, hF, H, k, wr, rfl⟩ := zOp x.x h; exact ⟨_, _, _, _, hF, .one _ _ (.plain _ rfl)⟩)
noncomputable def zQq : Ct Try.prog 0 := CtR.lend 22 (LtT × LtT) (fun x => [x.1.v, x.2.v]) (fun x H => x.1.at H ∧ x.2.at H) (fun x => [x.1.x.v, x.2.x.v]) (fun x => x.1.x.small ∧ x.2.x.small) (fun x => .bool (x.1.x.same x.2.x))
 (fun x y H e h k => by simp only [List.cons.injEq, and_true] at e; exact Prod.ext (LtT.uniq e.1 h.1 k.1) (LtT.uniq e.2 h.2 k.2)) (fun x H h => .cons _ _ _ _ (LtT.frz h.1) (.cons _ _ _ _ (LtT.frz h.2) .nil))
 (fun x hf => by obtain ⟨r, hF, H, k, wr, rfl⟩ := zRl x.1.x x.2.x hf.1 hf.2; exact ⟨_, _, _, _, hF, .one _ _ (.plain _ rfl)⟩)
def SetX.fit (x : SetX) : Prop := x.d.length ≤ 9000000000000 ∧ x.n.size ≤ 140737488355328 ∧ ∀ s ∈ x.d, s.size ≤ 140737488355328
noncomputable def zQn : Ct Try.prog 0 := CtR.tree 28 (SetX × Int) (fun x => [x.1.v, .int .i64 x.2]) (fun x => x.1.fit) (fun x => .bool (x.1.long x.2)) (fun a b h => by simp only [List.cons.injEq, Value.int.injEq, true_and, and_true] at h; exact Prod.ext (SetX.v_inj h.1) h.2) (fun _ => rfl)
 (fun x hf => by obtain ⟨r, hF, H, m, wr, rfl⟩ := zQy x.1 x.2 hf.1 hf.2; exact ⟨_, _, _, _, hF, .one _ _ (.plain _ rfl)⟩)
def SetX.less (x : SetX) (n : Int) : SetX := ⟨x.n, x.t, x.c, if n < 0 then x.ttl else if x.ttl < n then minI x.ttl 0 else IntKind.i64.wrap (x.ttl - n), x.d⟩
noncomputable def tbLs : Tb Try.prog 0 := tbOf mixed [zPd]
theorem less_tr (x : SetX) (n : Int) (hl : x.d.length ≤ 1000000) : ∃ r, FnS Try.prog 0 27 [x.v, .int .i64 n] .e 0 r ∧ ∃ dv H k wr, r = .ret (.agg #[.string x.n, .int .i64 x.t, .int .i64 x.c, .int .i64 (x.less n).ttl, dv]) H k wr ∧ ((dv = trS [] ∧ x.d = []) ∨ ∃ b, dv = .slice (some ⟨b, 0, none⟩) x.d.length U ∧ b < JJ ∧ x.d ≠ [] ∧ H.get b = some (.cells (x.d.flatMap layS.g) 9)) := by
 refine zEd mixed tbLs [] Try.func27 (c := bodyOf Try.f27) (by kernel_rfl) ?_
 refine Exists.intro x.d (And.intro ⟨rfl, hl⟩ ?_)
 refine And.intro (fun e => ?_) (fun y r e => ?_)
 ·have e : x.d = [] := e
  refine ifK (fun h => ?_) (fun h => ?_)
  ·have h : n < 0 := of_decide_eq_true h
   rw [show (x.less n).ttl = x.ttl by unfold SetX.less; rw [if_pos h]]
   exact ⟨_, _, _, _, rfl, .inl ⟨rfl, e⟩⟩
  have h : ¬ n < 0 := of_decide_eq_false h
  refine ifK (fun h2 => ?_) (fun h2 => ?_)
  ·have h2 : x.ttl < n := of_decide_eq_true h2
   rw [show (x.less n).ttl = minI x.ttl 0 by unfold SetX.less; rw [if_neg h, if_pos h2]]
   exact ⟨_, _, _, _, rfl, .inl ⟨rfl, e⟩⟩
  ·have h2 : ¬ x.ttl < n := of_decide_eq_false h2
   rw [show (x.less n).ttl = IntKind.i64.wrap (x.ttl - n) by unfold SetX.less; rw [if_neg h, if_neg h2]]
   exact ⟨_, _, _, _, rfl, .inl ⟨rfl, e⟩⟩
 ·have e : x.d = y :: r := e
  refine ifK (fun h => ?_) (fun h => ?_)
  ·have h : n < 0 := of_decide_eq_true h
   rw [show (x.less n).ttl = x.ttl by unfold SetX.less; rw [if_pos h], e]
   exact ⟨_, _, _, _, rfl, .inr ⟨2, rfl, by decide, by simp, by kernel_rfl⟩⟩
  have h : ¬ n < 0 := of_decide_eq_false h
  refine ifK (fun h2 => ?_) (fun h2 => ?_)
  ·have h2 : x.ttl < n := of_decide_eq_true h2
   rw [show (x.less n).ttl = minI x.ttl 0 by unfold SetX.less; rw [if_neg h, if_pos h2], e]
   exact ⟨_, _, _, _, rfl, .inr ⟨2, rfl, by decide, by simp, by kernel_rfl⟩⟩
  ·have h2 : ¬ x.ttl < n := of_decide_eq_false h2
   rw [show (x.less n).ttl = IntKind.i64.wrap (x.ttl - n) by unfold SetX.less; rw [if_neg h, if_neg h2], e]
   exact ⟨_, _, _, _, rfl, .inr ⟨2, rfl, by decide, by simp, by kernel_rfl⟩⟩
end Go.Proofs.Ytblhnenhonfpnaa
namespace Go.Proofs.Ytblhnenhonfpnaa
open Go Go.RowKit
theorem zHh {a b : ByteArray} {h : Bool} (e : (a.data.toList == b.data.toList) = h) : decide (a = b) = h := by
 cases h with
 | true => exact decide_eq_true (zGi (by simpa using e))
 | false => exact decide_eq_false (fun q => by subst q; simp at e)
theorem has_tr (l : List ByteArray) (s : ByteArray) (hl : l.length ≤ 1000000000) : ∃ r, FnS Try.prog 0 41 [trS l, Value.string s] .e 0 r ∧ ∃ H m wr, r = .ret (.bool (hasS l s)) H m wr := by
 refine zEd mixed tbSt0 [] Try.func41 (c := bodyOf Try.f41) (by kernel_rfl) ?_
 refine zBg (fun (i : Nat) f => ⟨slots 5 [(0, trS l), (1, .string s), (5, .int .i64 (i : Nat))] f, heap 0 [], 0, [], []⟩) (fun i => l.length - i) (fun i => i ≤ l.length ∧ hasS l s = hasS (l.drop i) s) 0 ⟨Nat.zero_le _, rfl⟩ (rcq [] ⟨⟨_, rfl, zAg 8 rfl⟩, ⟨_, rfl, zBi 8 rfl⟩, ⟨_, rfl, .int _ _⟩, trivial⟩ trivial .nil) ?_
 rintro i f ⟨hi, heq⟩
 refine zEe tbSt0 [] 0 _ none mixed _ _ _ ?_
 refine ifK (fun h1 => ?_) (fun h1 => ?_)
 ·have h1 : i < l.length := by have h1 : ((i : Nat) : Int) < (l.length : Int) := of_decide_eq_true h1; omega
  have hst : hasS (l.drop i) s = (decide (l[i] = s) || hasS (l.drop (i + 1)) s) := by rw [List.drop_eq_getElem_cons h1]; rfl
  rw [hst] at heq
  refine ifK (fun _ => ?_) (fun h2 => absurd h2 (by simp [inI]; omega))
  refine Exists.intro l[i] (And.intro (zAy layS h1) ?_)
  refine ifK (fun h3 => ?_) (fun h3 => ?_)
  ·rw [show hasS l s = true by rw [heq, zHh (a := l[i]) (b := s) (h := true) h3]; rfl]
   exact And.intro rfl (zAz (rcq [] (d := 5) (d2 := 0) (lv := [(4, .bool true)]) (bs := []) (W := []) (m := 0) (df := []) ⟨⟨_, rfl, zBi 8 rfl⟩, trivial⟩ trivial .nil) (fun f => ⟨_, _, _, rfl⟩))
  ·rw [zHh (a := l[i]) (b := s) (h := false) h3] at heq
   exact ⟨i + 1, ⟨h1, heq⟩, by show l.length - (i + 1) < l.length - i; omega, rcq [] ⟨⟨_, rfl, zAg 8 rfl⟩, ⟨_, rfl, zBi 8 rfl⟩, zAl rfl (by rw [wrapN (by omega) (by omega)]; omega), trivial⟩ trivial .nil⟩
 ·have h1 : ¬ i < l.length := by have h1 : ¬ ((i : Nat) : Int) < (l.length : Int) := of_decide_eq_false h1; omega
  rw [show hasS l s = false by rw [heq, List.drop_eq_nil_of_le (by omega)]; rfl]
  exact And.intro rfl (zAz (rcq [] (d := 5) (d2 := 0) (lv := []) (bs := []) (W := []) (m := 0) (df := []) trivial trivial .nil) (fun f => ⟨_, _, _, rfl⟩))
theorem sS_inj {a b : List ByteArray × ByteArray} (h : [trS a.1, Value.string a.2] = [trS b.1, Value.string b.2]) : a = b := by
 simp only [List.cons.injEq, Value.string.injEq, and_true] at h
 exact Prod.ext (zBy layS h.1) h.2
noncomputable def ct_hasT : Ct Try.prog 0 := CtR.tree 41 (List ByteArray × ByteArray) (fun x => [trS x.1, Value.string x.2]) (fun x => x.1.length ≤ 1000000000) (fun x => .bool (hasS x.1 x.2)) (fun _ _ h => sS_inj h) (fun _ => rfl)
 (fun x hl => by obtain ⟨r, hF, H, m, wr, rfl⟩ := has_tr x.1 x.2 hl; exact ⟨_, _, _, _, hF, .one _ _ (.plain _ rfl)⟩)
def timesS (l : List ByteArray) (s : ByteArray) : Nat := (l.filter fun t => decide (t = s)).length
theorem times_tr (l : List ByteArray) (s : ByteArray) (hl : l.length ≤ 1000000000) : ∃ r, FnS Try.prog 0 49 [trS l, Value.string s] .e 0 r ∧ ∃ H m wr, r = .ret (.int .i64 (timesS l s : Int)) H m wr := by
 refine zEd mixed tbSt0 [] Try.func49 (c := bodyOf Try.f49) (by kernel_rfl) ?_
 refine zBg (fun (i : Nat) f => ⟨slots 5 [(0, trS l), (1, .string s), (5, .int .i64 (timesS (l.take i) s : Int)), (6, .int .i64 (i : Nat))] f, heap 0 [], 0, [], []⟩) (fun i => l.length - i) (fun i => i ≤ l.length) 0 (Nat.zero_le _) (rcq [] ⟨⟨_, rfl, zAg 8 rfl⟩, ⟨_, rfl, zBi 8 rfl⟩, ⟨_, rfl, .int _ _⟩, ⟨_, rfl, .int _ _⟩, trivial⟩ trivial .nil) ?_
 intro i f hi
 have hi : i ≤ l.length := hi
 have hc : timesS (l.take i) s ≤ 1000000000 := Nat.le_trans (List.length_filter_le _ _) (by rw [List.length_take]; omega)
 refine zEe tbSt0 [] 0 _ none mixed _ _ _ ?_
 refine ifK (fun h1 => ?_) (fun h1 => ?_)
 ·have h1 : i < l.length := by have h1 : ((i : Nat) : Int) < (l.length : Int) := of_decide_eq_true h1; omega
  have hst : timesS (l.take (i + 1)) s = timesS (l.take i) s + ([l[i]].filter fun t => decide (t = s)).length := by unfold timesS; rw [List.take_succ_eq_append_getElem h1, List.filter_append, List.length_append]
  refine ifK (fun _ => ?_) (fun h2 => absurd h2 (by simp [inI]; omega))
  refine Exists.intro l[i] (And.intro (zAy layS h1) ?_)
  refine ifK (fun h3 => ?_) (fun h3 => ?_)
  ·rw [List.filter_cons_of_pos (p := fun t => decide (t = s)) (zHh (a := l[i]) (b := s) (h := true) h3)] at hst
   have hw : IntKind.i64.wrap ((timesS (l.take i) s : Int) + 1) = ((timesS (l.take (i + 1)) s : Nat) : Int) := by rw [wrapN (by omega) (by omega), hst]; rfl
   exact ⟨i + 1, h1, by show l.length - (i + 1) < l.length - i; omega, rcq [] ⟨⟨_, rfl, zAg 8 rfl⟩, ⟨_, rfl, zBi 8 rfl⟩, zAl rfl hw, zAl rfl (by rw [wrapN (by omega) (by omega)]; omega), trivial⟩ trivial .nil⟩
  ·rw [List.filter_cons_of_neg (p := fun t => decide (t = s)) (by show ¬ decide (l[i] = s) = true; rw [zHh (a := l[i]) (b := s) (h := false) h3]; simp)] at hst
   have hw : (timesS (l.take i) s : Int) = ((timesS (l.take (i + 1)) s : Nat) : Int) := by rw [hst]; rfl
   exact ⟨i + 1, h1, by show l.length - (i + 1) < l.length - i; omega, rcq [] ⟨⟨_, rfl, zAg 8 rfl⟩, ⟨_, rfl, zBi 8 rfl⟩, zAl rfl hw, zAl rfl (by rw [wrapN (by omega) (by omega)]; omega), trivial⟩ trivial .nil⟩
 ·have h1 : ¬ i < l.length := by have h1 : ¬ ((i : Nat) : Int) < (l.length : Int) := of_decide_eq_false h1; omega
  refine And.intro rfl (zAz (rcq [] (d := 5) (d2 := 0) (lv := [(5, .int .i64 (timesS l s : Int))]) (bs := []) (W := []) (m := 0) (df := []) ⟨⟨_, rfl, (by rw [List.take_of_length_le (by omega)]; exact .int _ _)⟩, trivial⟩ trivial .nil) (fun f => ?_))
  exact ⟨_, _, _, rfl⟩
noncomputable def ct_timesT : Ct Try.prog 0 := CtR.tree 49 (List ByteArray × ByteArray) (fun x => [trS x.1, Value.string x.2]) (fun x => x.1.length ≤ 1000000000) (fun x => .int .i64 (timesS x.1 x.2 : Int)) (fun _ _ h => sS_inj h) (fun _ => rfl)
 (fun x hl => by obtain ⟨r, hF, H, m, wr, rfl⟩ := times_tr x.1 x.2 hl; exact ⟨_, _, _, _, hF, .one _ _ (.plain _ rfl)⟩)
theorem sameTx_tr (a b : List ByteArray) (hl : a.length ≤ 1000000000) : ∃ r, FnS Try.prog 0 36 [trS a, trS b] .e 0 r ∧ ∃ H m wr, r = .ret (.bool (decide (a = b))) H m wr := by
 refine zEd mixed tbSt0 [] Try.func36 (c := bodyOf Try.f36) (by kernel_rfl) ?_
 refine ifK (fun g => ?_) (fun g => ?_)
 ·have g : ((a.length : Int) != (b.length : Int)) = true := g
  rw [show decide (a = b) = false from decide_eq_false (fun e => by subst e; simp at g)]
  exact ⟨_, _, _, rfl⟩
 have g : ((a.length : Int) != (b.length : Int)) = false := g
 have hlen : a.length = b.length := by simp at g; omega
 refine zBg (fun (i : Nat) f => ⟨slots 5 [(0, trS a), (1, trS b), (5, .int .i64 (i : Nat))] f, heap 0 [], 0, [], []⟩) (fun i => a.length - i) (fun i => i ≤ a.length ∧ a.take i = b.take i) 0 ⟨Nat.zero_le _, rfl⟩ (rcq [] ⟨⟨_, rfl, zAg 8 rfl⟩, ⟨_, rfl, zAg 8 rfl⟩, ⟨_, rfl, .int _ _⟩, trivial⟩ trivial .nil) ?_
 rintro i f ⟨hi, heq⟩
 refine zEe tbSt0 [] 0 _ none mixed _ _ _ ?_
 refine ifK (fun h1 => ?_) (fun h1 => ?_)
 ·have h1 : i < a.length := by have h1 : ((i : Nat) : Int) < (a.length : Int) := of_decide_eq_true h1; omega
  have h2 : i < b.length := by omega
  refine And.intro (by kernel_rfl) ?_
  refine ifK (fun _ => ?_) (fun h2 => absurd h2 (by simp [inI]; omega))
  refine Exists.intro a[i] (And.intro (zAy layS h1) ?_)
  refine ifK (fun _ => ?_) (fun h2 => absurd h2 (by simp [inI]; omega))
  refine Exists.intro b[i] (And.intro (zAy layS h2) ?_)
  refine ifK (fun h3 => ?_) (fun h3 => ?_)
  ·have h3 : (!(a[i].data.toList == b[i].data.toList)) = true := h3
   have e : decide (a = b) = false := decide_eq_false (fun e => by rw [zHt h1 h2 e] at h3; simp at h3)
   refine And.intro rfl (zAz (rcq [] (d := 5) (d2 := 0) (lv := [(4, .bool false)]) (bs := []) (W := []) (m := 0) (df := []) ⟨⟨_, rfl, zBi 8 rfl⟩, trivial⟩ trivial .nil) (fun f => ?_))
   rw [e]; exact ⟨_, _, _, rfl⟩
  ·have h3 : (!(a[i].data.toList == b[i].data.toList)) = false := h3
   have h3 : a[i].data.toList = b[i].data.toList := by simpa using h3
   exact ⟨i + 1, ⟨h1, zIo h1 h2 heq (zGi h3)⟩, by show a.length - (i + 1) < a.length - i; omega, rcq [] ⟨⟨_, rfl, zAg 8 rfl⟩, ⟨_, rfl, zAg 8 rfl⟩, zAl rfl (by rw [wrapN (by omega) (by omega)]; omega), trivial⟩ trivial .nil⟩
 ·have h1 : ¬ i < a.length := by have h1 : ¬ ((i : Nat) : Int) < (a.length : Int) := of_decide_eq_false h1; omega
  have e : a = b := by have := heq; rwa [List.take_of_length_le (by omega), List.take_of_length_le (by omega)] at this
  refine And.intro rfl (zAz (rcq [] (d := 5) (d2 := 0) (lv := []) (bs := []) (W := []) (m := 0) (df := []) trivial trivial .nil) (fun f => ?_))
  rw [decide_eq_true e]; exact ⟨_, _, _, rfl⟩
end Go.Proofs.Ytblhnenhonfpnaa
namespace Go.Proofs.Ytblhnenhonfpnaa
open Go Go.RowKit
noncomputable def inl_num22 : Ct Try.prog 0 := Ct.inl (tbOf mixed []) mixed [] 48 Try.f48 Try.func48 (bodyOf Try.f48) (by kernel_rfl)
noncomputable def inl_tog22 : Ct Try.prog 0 := Ct.inl (tbOf mixed [ct_rsame]) mixed [] 40 Try.f40 Try.func40 (bodyOf Try.f40) (by kernel_rfl)
noncomputable def tbRc22 : Tb Try.prog 0 := tbOf mixed [ct_rcheck, inl_num22, ct_hasT]
theorem zMk (x : SetX) (hx : shortB x.n = true) : ∃ r, FnS Try.prog 0 29 [x.v] .e 0 r ∧ ∃ H m wr, r = .ret (.int .i64 x.chk) H m wr := by
 have bad : x.fine = false → x.chk = 2 := fun h => by unfold SetX.chk; rw [h]; rfl
 refine zEd mixed tbRc22 [] Try.func29 (c := bodyOf Try.f29) (by kernel_rfl) ?_
 refine And.intro hx ?_
 refine ifK (fun h => ?_) (fun g1 => ?_)
 ·have h : ((labels (bs x.n)).2 != 0) = true := h
  rw [bad (by unfold SetX.fine; rw [decide_eq_false (by simpa using h)]; rfl)]
  exact ⟨_, _, _, rfl⟩
 have g1 : decide ((labels (bs x.n)).2 = 0) = true := by have g1 : ((labels (bs x.n)).2 != 0) = false := g1; simpa using g1
 refine ifK (fun g2 => ?_) (fun h => ?_)
 rotate_left
 ·rw [bad (by unfold SetX.fine; rw [show decide (x.t ≥ 0) = false from h]; simp)]
  exact ⟨_, _, _, rfl⟩
 refine ifK (fun h => ?_) (fun g3 => ?_)
 ·have h : (!decide (x.t ≤ 65535)) = true := h
  have h : decide (x.t ≤ 65535) = false := by simpa using h
  rw [bad (by unfold SetX.fine; rw [show decide (x.t ≤ 65535) = false by have := of_decide_eq_false h; exact decide_eq_false (by omega)]; simp)]
  exact ⟨_, _, _, rfl⟩
 have g3 : decide (x.t ≤ 65535) = true := by
  have g : (!decide (x.t ≤ 65535)) = false := g3
  have g : decide (x.t ≤ 65535) = true := by simpa using g
  have := of_decide_eq_true g; exact decide_eq_true (by omega)
 refine ifK (fun g4 => ?_) (fun h => ?_)
 rotate_left
 ·rw [bad (by unfold SetX.fine; rw [show decide (x.c ≥ 0) = false from h]; simp)]
  exact ⟨_, _, _, rfl⟩
 refine ifK (fun h => ?_) (fun g5 => ?_)
 ·have h : (!decide (x.c ≤ 65535)) = true := h
  have h : decide (x.c ≤ 65535) = false := by simpa using h
  rw [bad (by unfold SetX.fine; rw [show decide (x.c ≤ 65535) = false by have := of_decide_eq_false h; exact decide_eq_false (by omega)]; simp)]
  exact ⟨_, _, _, rfl⟩
 have g5 : decide (x.c ≤ 65535) = true := by
  have g : (!decide (x.c ≤ 65535)) = false := g5
  have g : decide (x.c ≤ 65535) = true := by simpa using g
  have := of_decide_eq_true g; exact decide_eq_true (by omega)
 refine ifK (fun g6 => ?_) (fun h => ?_)
 rotate_left
 ·rw [bad (by unfold SetX.fine; rw [show decide (x.ttl ≥ 0) = false from h]; simp)]
  exact ⟨_, _, _, rfl⟩
 refine ifK (fun h => ?_) (fun g7 => ?_)
 ·have h : (!decide (x.ttl ≤ 2147483647)) = true := h
  have h : decide (x.ttl ≤ 2147483647) = false := by simpa using h
  rw [bad (by unfold SetX.fine; rw [show decide (x.ttl < 2147483648) = false by have := of_decide_eq_false h; exact decide_eq_false (by omega)]; simp)]
  exact ⟨_, _, _, rfl⟩
 have g7 : decide (x.ttl < 2147483648) = true := by
  have g : (!decide (x.ttl ≤ 2147483647)) = false := g7
  have g : decide (x.ttl ≤ 2147483647) = true := by simpa using g
  have := of_decide_eq_true g; exact decide_eq_true (by omega)
 refine ifK (fun h => ?_) (fun g8 => ?_)
 ·have h : decide ((x.d.length : Int) < 1) = true := h
  rw [bad (by unfold SetX.fine; rw [show decide (x.d.length ≥ 1) = false by have := of_decide_eq_true h; exact decide_eq_false (by omega)]; simp)]
  exact ⟨_, _, _, rfl⟩
 have g8 : decide (x.d.length ≥ 1) = true := by have g8 : decide ((x.d.length : Int) < 1) = false := g8; have := of_decide_eq_false g8; exact decide_eq_true (by omega)
 refine ifK (fun h => ?_) (fun g9 => ?_)
 ·have h : decide ((x.d.length : Int) > 64) = true := h
  rw [bad (by unfold SetX.fine; rw [show decide (x.d.length ≤ 64) = false by have := of_decide_eq_true h; exact decide_eq_false (by omega)]; simp)]
  exact ⟨_, _, _, rfl⟩
 have g9 : decide (x.d.length ≤ 64) = true := by have g9 : decide ((x.d.length : Int) > 64) = false := g9; have := of_decide_eq_false g9; exact decide_eq_true (by omega)
 have hl : x.d.length ≤ 64 := of_decide_eq_true g9
 have fine : x.fine = true := by unfold SetX.fine; rw [g1, show decide (x.t ≥ 0) = true from g2, g3, show decide (x.c ≥ 0) = true from g4, g5, show decide (x.ttl ≥ 0) = true from g6, g7, g8, g9]; rfl
 rw [show x.chk = if okK [] x.d then 0 else 2 by unfold SetX.chk; rw [fine]; rfl]
 refine zBg (fun (i : Nat) f => ⟨slots 7 [(1, .pointer (some ⟨0, 0, none⟩)), (3, .int .i64 (i : Nat))] f, heap 1 [(0, .cells x.cs 32)], 1, [], []⟩) (fun i => x.d.length - i) (fun i => i ≤ x.d.length ∧ okK [] x.d = okK (x.d.take i) (x.d.drop i)) 0 ⟨Nat.zero_le _, rfl⟩ (rcq [0] ⟨⟨_, rfl, .ptr _ _ _ rfl⟩, ⟨_, rfl, .int _ _⟩, trivial⟩ ⟨⟨by decide, _, rfl, RO.clos rfl⟩, trivial⟩ .nil) ?_
 rintro i f ⟨hi, heq⟩
 refine zEe tbRc22 [] 0 _ none mixed _ _ _ ?_
 refine ifK (fun h1 => ?_) (fun h1 => ?_)
 ·have h1 : i < x.d.length := by have h1 : ((i : Nat) : Int) < (x.d.length : Int) := of_decide_eq_true h1; omega
  have hst : okK (x.d.take i) (x.d.drop i) = (!hasS (x.d.take i) x.d[i] && (decide (x.d[i].size ≤ 65535) && okK (x.d.take (i + 1)) (x.d.drop (i + 1)))) := by rw [List.drop_eq_getElem_cons h1, List.take_succ_eq_append_getElem h1]; rfl
  rw [hst] at heq
  refine And.intro (by kernel_rfl) ?_
  refine ifK (fun _ => ?_) (fun h2 => absurd h2 (by simp [inI]; omega))
  refine Exists.intro x.d[i] (And.intro (zAy layS h1) ?_)
  refine ifK (fun h3 => ?_) (fun h3 => ?_)
  ·have h3 : decide ((x.d[i].data.size : Int) > 65535) = true := h3
   have h3 : (x.d[i].size : Int) > 65535 := of_decide_eq_true h3
   rw [show okK [] x.d = false by rw [heq, show decide (x.d[i].size ≤ 65535) = false from decide_eq_false (by omega)]; simp]
   exact And.intro rfl (zAz (rcq [] (d := 7) (d2 := 0) (lv := [(2, .int .i64 2)]) (bs := []) (W := []) (m := 0) (df := []) ⟨⟨_, rfl, .int _ _⟩, trivial⟩ trivial .nil) (fun f => ⟨_, _, _, rfl⟩))
  have h3 : decide ((x.d[i].data.size : Int) > 65535) = false := h3
  have h3 : ¬ (x.d[i].size : Int) > 65535 := of_decide_eq_false h3
  rw [show decide (x.d[i].size ≤ 65535) = true from decide_eq_true (by omega)] at heq
  have hti : (x.d.take i).length = i := by rw [List.length_take]; omega
  refine And.intro (by simp only [inLH, Bool.and_eq_true, decide_eq_true_eq]; omega) ?_
  refine Exists.intro (x.d.take i).length (Exists.intro ((x.d.take i).flatMap layS.g) (And.intro ⟨by rw [hti]; simp, by rw [hti]; have := tree_part layS x.d 0 i; rw [List.drop_zero] at this; exact this⟩ ?_))
  refine ifK (fun _ => ?_) (fun h2 => absurd h2 (by simp [inI]; omega))
  refine Exists.intro x.d[i] (And.intro (zAy layS h1) ?_)
  refine Exists.intro (x.d.take i, x.d[i]) (And.intro ⟨rfl, by show (x.d.take i).length ≤ _; omega⟩ ?_)
  refine ifK (fun hm => ?_) (fun hm => ?_)
  ·have hm : hasS (x.d.take i) x.d[i] = true := hm
   rw [show okK [] x.d = false by rw [heq, hm]; rfl]
   exact And.intro rfl (zAz (rcq [] (d := 7) (d2 := 0) (lv := [(2, .int .i64 2)]) (bs := []) (W := []) (m := 0) (df := []) ⟨⟨_, rfl, .int _ _⟩, trivial⟩ trivial .nil) (fun f => ⟨_, _, _, rfl⟩))
  ·have hm : hasS (x.d.take i) x.d[i] = false := hm
   rw [hm] at heq
   exact ⟨i + 1, ⟨h1, heq⟩, by show x.d.length - (i + 1) < x.d.length - i; omega, rcq [0] ⟨⟨_, rfl, .ptr _ _ _ rfl⟩, zAl rfl (by rw [wrapN (by omega) (by omega)]; omega), trivial⟩ ⟨⟨by decide, _, rfl, RO.clos rfl⟩, trivial⟩ .nil⟩
 ·have h1 : ¬ i < x.d.length := by have h1 : ¬ ((i : Nat) : Int) < (x.d.length : Int) := of_decide_eq_false h1; omega
  rw [show okK [] x.d = true by rw [heq, List.drop_eq_nil_of_le (by omega)]; rfl]
  refine And.intro rfl (zAz (rcq [] (d := 7) (d2 := 0) (lv := []) (bs := []) (W := []) (m := 0) (df := []) trivial trivial .nil) (fun f => ?_))
  exact ⟨_, _, _, rfl⟩
end Go.Proofs.Ytblhnenhonfpnaa
namespace Go.Proofs.Ytblhnenhonfpnaa
open Go Go.RowKit
abbrev leL (x y : (List UInt8)) : Bool := decide (x ≤ y)
theorem zLx (a b c : (List UInt8)) (h : leL a b = true) (k : leL b c = true) : leL a c = true := by
 simp only [leL, decide_eq_true_eq] at *; exact List.le_trans h k
theorem zLw (a b : (List UInt8)) : (leL a b || leL b a) = true := by
 simp only [leL, Bool.or_eq_true, decide_eq_true_eq]; exact List.le_total a b
theorem leL_anti (a b : (List UInt8)) (h : leL a b = true) (k : leL b a = true) : a = b := by
 simp only [leL, decide_eq_true_eq] at *; exact List.le_antisymm h k
theorem msort_iff (a b : List (List UInt8)) : a.mergeSort leL = b.mergeSort leL ↔ a.Perm b := by
 constructor
 ·intro h
  exact (List.mergeSort_perm a leL).symm.trans (h ▸ List.mergeSort_perm b leL)
 ·intro h
  exact List.Perm.eq_of_pairwise (le := fun a b => leL a b = true) (fun x y _ _ h1 h2 => leL_anti x y h1 h2) (List.pairwise_mergeSort zLx zLw a) (List.pairwise_mergeSort zLx zLw b) (((List.mergeSort_perm a leL).trans h).trans (List.mergeSort_perm b leL).symm)
theorem zOd {a b : List (List UInt8)} (hl : a.length = b.length) (h : ∀ x ∈ a, a.count x = b.count x) : a.Perm b := by
 have h1 : a.Perm (b.filter fun x => decide (x ∈ a)) := by
  rw [List.perm_iff_count]
  intro x
  by_cases hx : x ∈ a
  ·rw [List.count_filter (p := fun x => decide (x ∈ a)) (by simpa using hx)]; exact h x hx
  ·rw [List.count_eq_zero_of_not_mem hx, List.count_eq_zero_of_not_mem (fun hm => hx (by simpa using (List.mem_filter.1 hm).2))]
 have h2 : (b.filter fun x => decide (x ∈ a)).length = b.length := by rw [← h1.length_eq, hl]
 have h3 : (b.filter fun x => decide (x ∈ a)) = b := List.filter_eq_self.2 (List.length_filter_eq_length_iff.1 h2)
 rwa [h3] at h1
def ssL (l : List ByteArray) : List (List UInt8) := l.map (·.data.toList)
theorem zGx (l : List ByteArray) (s : ByteArray) : (ssL l).count s.data.toList = timesS l s := by
 induction l with
 | nil => rfl
 | cons x l ih =>
  show (x.data.toList :: ssL l).count s.data.toList = _
  rw [List.count_cons, ih]
  unfold timesS
  by_cases h : x = s
  ·subst h; rw [List.filter_cons_of_pos (by simp)]; simp
  ·rw [List.filter_cons_of_neg (by simpa using h), if_neg (by simpa using fun e => h (zGi e))]; rfl
theorem sortS_iff (a b : List ByteArray) : sortS a = sortS b ↔ (ssL a).Perm (ssL b) := by
 rw [← msort_iff]
 unfold sortS
 constructor
 ·intro h
  have := congrArg (List.map fun x : ByteArray => x.data.toList) h
  simp only [List.map_map, Function.comp_def, List.map_id'] at this
  exact this
 ·intro h; show List.map _ ((ssL a).mergeSort leL) = List.map _ ((ssL b).mergeSort leL); rw [h]
theorem zRn {a b : List ByteArray} (hl : a.length = b.length) : decide (sortS a = sortS b) = a.all fun x => timesS a x == timesS b x := by
 rw [decide_eq_decide.2 (sortS_iff a b)]
 by_cases h : (ssL a).Perm (ssL b)
 ·rw [decide_eq_true h, eq_comm, List.all_eq_true]
  intro x _
  rw [← zGx, ← zGx, h.count_eq]
  simp
 ·rw [decide_eq_false h, eq_comm, Bool.eq_false_iff]
  intro hall
  rw [List.all_eq_true] at hall
  refine h (zOd (by unfold ssL; simp [hl]) fun y hy => ?_)
  obtain ⟨x, hx, rfl⟩ := List.mem_map.1 hy
  have := hall x hx
  rw [zGx, zGx]
  simpa using this
end Go.Proofs.Ytblhnenhonfpnaa
namespace Go.Proofs.Ytblhnenhonfpnaa
open Go Go.RowKit
noncomputable def tbRs22 : Tb Try.prog 0 := tbOf mixed [inl_tog22, ct_timesT]
theorem zOh (a b : SetX) (ha : a.small) (hb : b.small) : ∃ r, FnS Try.prog 0 33 [a.v, b.v] .e 0 r ∧ ∃ H m wr, r = .ret (.bool (a.same b)) H m wr := by
 obtain ⟨a1, a2⟩ := ha
 obtain ⟨b1, b2⟩ := hb
 have same : a.same b = ((a.t == b.t) && (a.c == b.c) && zBf (bs a.n) (bs b.n) && (a.d.length == b.d.length) && decide (sortS a.d = sortS b.d)) := rfl
 refine zEd mixed tbRs22 [] Try.func33 (c := bodyOf Try.f33) (by kernel_rfl) ?_
 refine And.intro (by rw [a1, b1]; rfl) ?_
 refine ifK (fun h3 => ?_) (fun h => ?_)
 rotate_left
 ·rw [show a.same b = false by rw [same, show zBf (bs a.n) (bs b.n) = false from h]; simp]
  exact ⟨_, _, _, rfl⟩
 refine ifK (fun h1 => ?_) (fun h => ?_)
 rotate_left
 ·rw [show a.same b = false by rw [same, show (a.t == b.t) = false from h]; simp]
  exact ⟨_, _, _, rfl⟩
 refine ifK (fun h => ?_) (fun h2 => ?_)
 ·have h : (!(a.c == b.c)) = true := h
  rw [show a.same b = false by rw [same, show (a.c == b.c) = false by simpa using h]; simp]
  exact ⟨_, _, _, rfl⟩
 have h2 : (a.c == b.c) = true := by have h2 : (!(a.c == b.c)) = false := h2; simpa using h2
 refine ifK (fun h => ?_) (fun h => ?_)
 ·have h : ((a.d.length : Int) != (b.d.length : Int)) = true := h
  rw [show a.same b = false by rw [same, show (a.d.length == b.d.length) = false by simp at h ⊢; omega]; simp]
  exact ⟨_, _, _, rfl⟩
 have h4 : a.d.length = b.d.length := by have h : ((a.d.length : Int) != (b.d.length : Int)) = false := h; simp at h; omega
 rw [show a.same b = a.d.all fun x => timesS a.d x == timesS b.d x by rw [same, show (a.t == b.t) = true from h1, h2, show zBf (bs a.n) (bs b.n) = true from h3, h4, zRn h4]; simp]
 refine zBg (fun (i : Nat) f => ⟨slots 6 [(2, .pointer (some ⟨0, 0, none⟩)), (3, .pointer (some ⟨1, 0, none⟩)), (5, .int .i64 (i : Nat))] f, heap 2 [(0, .cells a.cs 32), (1, .cells b.cs 32)], 2, [], []⟩) (fun i => a.d.length - i) (fun i => i ≤ a.d.length ∧ (a.d.all fun x => timesS a.d x == timesS b.d x) = ((a.d.drop i).all fun x => timesS a.d x == timesS b.d x)) 0 ⟨Nat.zero_le _, rfl⟩ (rcq [0, 1] ⟨⟨_, rfl, .ptr _ _ _ rfl⟩, ⟨_, rfl, .ptr _ _ _ rfl⟩, ⟨_, rfl, .int _ _⟩, trivial⟩ ⟨⟨by decide, _, rfl, RO.clos rfl⟩, ⟨by decide, _, rfl, RO.clos rfl⟩, trivial⟩ .nil) ?_
 rintro i f ⟨hi, heq⟩
 refine zEe tbRs22 [] 0 _ none mixed _ _ _ ?_
 refine ifK (fun h5 => ?_) (fun h5 => ?_)
 ·have h5 : i < a.d.length := by have h5 : ((i : Nat) : Int) < (a.d.length : Int) := of_decide_eq_true h5; omega
  have hst : ((a.d.drop i).all fun x => timesS a.d x == timesS b.d x) = ((timesS a.d a.d[i] == timesS b.d a.d[i]) && ((a.d.drop (i + 1)).all fun x => timesS a.d x == timesS b.d x)) := by rw [List.drop_eq_getElem_cons h5]; rfl
  rw [hst] at heq
  refine And.intro (by kernel_rfl) ?_
  refine ifK (fun _ => ?_) (fun h2 => absurd h2 (by simp [inI]; omega))
  refine Exists.intro a.d[i] (And.intro (zAy layS h5) ?_)
  refine Exists.intro (a.d, a.d[i]) (And.intro ⟨rfl, by show a.d.length ≤ _; omega⟩ ?_)
  refine ifK (fun _ => ?_) (fun h2 => absurd h2 (by simp [inI]; omega))
  refine Exists.intro a.d[i] (And.intro (zAy layS h5) ?_)
  refine Exists.intro (b.d, a.d[i]) (And.intro ⟨rfl, by show b.d.length ≤ _; omega⟩ ?_)
  refine ifK (fun h6 => ?_) (fun h6 => ?_)
  ·have h6 : ((timesS a.d a.d[i] : Int) != (timesS b.d a.d[i] : Int)) = true := h6
   rw [heq, show (timesS a.d a.d[i] == timesS b.d a.d[i]) = false by simp at h6 ⊢; omega]
   exact And.intro rfl (zAz (rcq [] (d := 6) (d2 := 0) (lv := [(4, .bool false)]) (bs := []) (W := []) (m := 0) (df := []) ⟨⟨_, rfl, zBi 8 rfl⟩, trivial⟩ trivial .nil) (fun f => ⟨_, _, _, rfl⟩))
  ·have h6 : ((timesS a.d a.d[i] : Int) != (timesS b.d a.d[i] : Int)) = false := h6
   rw [show (timesS a.d a.d[i] == timesS b.d a.d[i]) = true by simp at h6 ⊢; omega] at heq
   exact ⟨i + 1, ⟨h5, heq⟩, by show a.d.length - (i + 1) < a.d.length - i; omega, rcq [0, 1] ⟨⟨_, rfl, .ptr _ _ _ rfl⟩, ⟨_, rfl, .ptr _ _ _ rfl⟩, zAl rfl (by rw [wrapN (by omega) (by omega)]; omega), trivial⟩ ⟨⟨by decide, _, rfl, RO.clos rfl⟩, ⟨by decide, _, rfl, RO.clos rfl⟩, trivial⟩ .nil⟩
 ·have h5 : ¬ i < a.d.length := by have h5 : ¬ ((i : Nat) : Int) < (a.d.length : Int) := of_decide_eq_false h5; omega
  rw [heq, List.drop_eq_nil_of_le (by omega)]
  exact And.intro rfl (zAz (rcq [] (d := 6) (d2 := 0) (lv := []) (bs := []) (W := []) (m := 0) (df := []) trivial trivial .nil) (fun f => ⟨_, _, _, rfl⟩))
noncomputable def tbRl22 : Tb Try.prog 0 := tbOf mixed []
theorem rless_tr (x : SetX) (n : Int) (hl : x.d.length ≤ 1000000) : ∃ r, FnS Try.prog 0 32 [x.v, .int .i64 n] .e 0 r ∧ ∃ v H k wr, r = .ret v H k wr ∧ Frz Try.prog 0 H v (x.less n).v := by
 have hby : (Try.prog.types[9]).bytes ≤ 100 := by decide +kernel
 have fin : ∀ (H : Tr AObj) (t : Int) (q : Value), t = (x.less n).ttl → FzP1 True Try.prog 0 H q (trS x.d) → Frz Try.prog 0 H (.agg #[.string x.n, .int .i64 x.t, .int .i64 x.c, .int .i64 t, q]) (x.less n).v := fun H t q ht hq => by
  subst ht
  exact .agg _ _ (.cons _ _ _ _ (.one _ _ (.plain _ rfl)) (.cons _ _ _ _ (.one _ _ (.plain _ rfl)) (.cons _ _ _ _ (.one _ _ (.plain _ rfl)) (.cons _ _ _ _ (.one _ _ (.plain _ rfl)) (.cons _ _ _ _ (.one _ _ hq) .nil)))))
 have key : ∀ H : Tr AObj, H.get 3 = some (.cells (x.d.flatMap layS.g) 9) → FzP1 True Try.prog 0 H (.slice (some ⟨3, 0, none⟩) (0 + x.d.length) U) (trS x.d) := fun H h => by
  rw [Nat.zero_add]
  exact zKo layS x.d (by decide) h (by kernel_rfl) rfl rfl
 refine zEd mixed tbRl22 [] Try.func32 (c := bodyOf Try.f32) (by kernel_rfl) ?_
 have t1 : n < 0 → x.ttl = (x.less n).ttl := fun h => by unfold SetX.less; rw [if_pos h]
 have t2 : ¬ n < 0 → x.ttl < n → minI x.ttl 0 = (x.less n).ttl := fun h k => by unfold SetX.less; rw [if_neg h, if_pos k]
 have t3 : ¬ n < 0 → ¬ x.ttl < n → IntKind.i64.wrap (x.ttl - n) = (x.less n).ttl := fun h k => by unfold SetX.less; rw [if_neg h, if_neg k]
 refine ifK (fun h0 => ?_) (fun h0 => ?_)
 ·have h0 : x.d = [] := List.eq_nil_of_length_eq_zero (Nat.eq_of_beq_eq_true h0)
  have em : ∀ H : Tr AObj, FzP1 True Try.prog 0 H (.slice (some ⟨2, 0, none⟩) 0 0) (trS x.d) := fun H => by rw [h0]; exact .se _ _ 1
  refine ifK (fun h => ?_) (fun h => ?_)
  ·exact ⟨_, _, _, _, rfl, fin _ _ _ (t1 (of_decide_eq_true h)) (em _)⟩
  refine ifK (fun h2 => ?_) (fun h2 => ?_)
  ·exact ⟨_, _, _, _, rfl, fin _ _ _ (t2 (of_decide_eq_false h) (of_decide_eq_true h2)) (em _)⟩
  ·exact ⟨_, _, _, _, rfl, fin _ _ _ (t3 (of_decide_eq_false h) (of_decide_eq_false h2)) (em _)⟩
 ·refine And.intro (by simp only [Bool.and_eq_true, decide_eq_true_eq, Nat.zero_add]; have := Nat.mul_le_mul hl hby; and_intros <;> omega) ?_
  refine ifK (fun h => ?_) (fun h => ?_)
  ·exact ⟨_, _, _, _, rfl, fin _ _ _ (t1 (of_decide_eq_true h)) (key _ (by kernel_rfl))⟩
  refine ifK (fun h2 => ?_) (fun h2 => ?_)
  ·exact ⟨_, _, _, _, rfl, fin _ _ _ (t2 (of_decide_eq_false h) (of_decide_eq_true h2)) (key _ (by kernel_rfl))⟩
  ·exact ⟨_, _, _, _, rfl, fin _ _ _ (t3 (of_decide_eq_false h) (of_decide_eq_false h2)) (key _ (by kernel_rfl))⟩
end Go.Proofs.Ytblhnenhonfpnaa
namespace Go.Proofs.Ytblhnenhonfpnaa
open Go Go.RowKit
def SetX.recs (x : SetX) : List RcX := x.d.map fun d => ⟨x.n, x.t, x.c, x.ttl, d⟩
theorem zFl (x : SetX) (i : Nat) (h : i < x.d.length) : (x.recs.take (i + 1)) = x.recs.take i ++ [⟨x.n, x.t, x.c, x.ttl, x.d[i]⟩] := by
 have hl : i < x.recs.length := by unfold SetX.recs; rw [List.length_map]; exact h
 rw [List.take_succ_eq_append_getElem hl]
 congr 2
 simp [SetX.recs]
theorem zBu (x : SetX) : x.recs.length = x.d.length := by unfold SetX.recs; simp
def recsS (x : SetX) : Nat → (Nat → Option Value) → Fs
 | 0, f => ⟨slots 6 [(1, .pointer (some ⟨0, 0, none⟩)), (3, .slice none 0 0), (7, trS x.d), (8, .int .i64 (x.d.length : Nat)), (9, .int .i64 0)] f, heap 1 [(0, .cells x.cs 32)], 1, [], []⟩
 | i + 1, f => ⟨slots 6 [(1, .pointer (some ⟨0, 0, none⟩)), (3, .slice (some ⟨1, 0, none⟩) (i + 1) U), (7, trS x.d), (8, .int .i64 (x.d.length : Nat)), (9, .int .i64 ((i + 1 : Nat) : Int))] f, heap 2 [(0, .cells x.cs 32), (1, .cells ((x.recs.take (i + 1)).flatMap layR.g) 39)], 2, [], []⟩
theorem recs_tr (x : SetX) (hx : x.d.length ≤ 1000000) : ∃ r, FnS Try.prog 0 25 [x.v] .e 0 r ∧ ∃ v H k wr, r = .ret v H k wr ∧ NilOwn layR H v x.recs := by
 have hby : (Try.prog.types[39]).bytes ≤ 100 := by decide +kernel
 have hz : (Try.prog.types[39]).size = 5 := by kernel_rfl
 refine zEd mixed tbSt0 [] Try.func25 (c := bodyOf Try.f25) (by kernel_rfl) ?_
 refine zBg (recsS x) (fun i => x.d.length - i) (fun i => i ≤ x.d.length) 0 (Nat.zero_le _) (rcq [0] (d := 6) (d2 := 1) (bs := [(0, .cells x.cs 32)]) (m := 1) ⟨⟨_, rfl, .ptr _ _ _ rfl⟩, ⟨_, rfl, .snil _ _⟩, ⟨_, rfl, zAg 8 rfl⟩, ⟨_, rfl, .int _ _⟩, ⟨_, rfl, .int _ _⟩, trivial⟩ ⟨⟨by decide, _, rfl, RO.clos rfl⟩, trivial⟩ .nil) ?_
 intro i f hi
 have hi : i ≤ x.d.length := hi
 cases i with
 | zero =>
  refine zEe tbSt0 [] 0 _ none mixed _ _ _ ?_
  refine ifK (fun h1 => ?_) (fun h1 => ?_)
  ·have h1 : 0 < x.d.length := by have h1 : ((0 : Nat) : Int) < (x.d.length : Int) := of_decide_eq_true h1; omega
   refine ifK (fun _ => ?_) (fun h2 => absurd h2 (by simp [inI]; try (intro e; rw [e] at h1; cases h1)))
   refine Exists.intro x.d[0] (And.intro (zAy layS h1) ?_)
   have hnew : layR.g ⟨x.n, x.t, x.c, x.ttl, x.d[0]⟩ = (x.recs.take (0 + 1)).flatMap layR.g := by rw [zFl x 0 h1]; exact (List.append_nil _).symm
   exact ⟨0 + 1, h1, by show x.d.length - (0 + 1) < x.d.length - 0; omega, rcq [0, 2] ⟨⟨_, rfl, .ptr _ _ _ rfl⟩, ⟨_, rfl, .sl _ _ _ _ _ rfl⟩, ⟨_, rfl, zAg 8 rfl⟩, ⟨_, rfl, .int _ _⟩, zAl rfl rfl, trivial⟩ ⟨⟨by decide, _, rfl, RO.clos rfl⟩, ⟨by decide, _, rfl, zRh hnew (zAb layR.g layR.plain _)⟩, trivial⟩ .nil⟩
  ·have h1 : ¬ 0 < x.d.length := by have h1 : ¬ ((0 : Nat) : Int) < (x.d.length : Int) := of_decide_eq_false h1; omega
   have he : x.recs = [] := List.eq_nil_of_length_eq_zero (by rw [zBu]; omega)
   exact And.intro rfl (zAz (rcq [] (d := 6) (d2 := 0) (lv := [(3, .slice none 0 0)]) (bs := []) (W := []) (m := 0) (df := []) ⟨⟨_, rfl, .snil _ _⟩, trivial⟩ trivial .nil) (fun f => ⟨_, _, _, _, rfl, .inl ⟨rfl, he⟩⟩))
 | succ i =>
  have hlen : ((x.recs.take (i + 1)).flatMap layR.g).length = (i + 1) * 5 := by rw [zAc layR.g 5 layR.len, List.length_take, zBu]; congr 1; omega
  refine zEe tbSt0 [] 0 _ none mixed _ _ _ ?_
  refine ifK (fun h1 => ?_) (fun h1 => ?_)
  ·have h1 : i + 1 < x.d.length := by have h1 : ((i + 1 : Nat) : Int) < (x.d.length : Int) := of_decide_eq_true h1; omega
   refine ifK (fun _ => ?_) (fun h2 => absurd h2 (by simp [inI]; omega))
   refine Exists.intro x.d[i + 1] (And.intro (zAy layS h1) ?_)
   refine And.intro ?_ ?_
   ·have := Nat.mul_le_mul (show i + 1 + 1 ≤ 2000000 by omega) hby
    simp only [Bool.and_eq_true, decide_eq_true_eq]
    refine ⟨⟨⟨⟨⟨⟨rfl, rfl⟩, Nat.ble_eq_true_of_le ?_⟩, rfl⟩, ?_⟩, ?_⟩, Nat.ble_eq_true_of_le ?_⟩
    ·rw [hz, hlen]; exact Nat.le_refl _
    ·omega
    ·omega
    ·rw [hz, hlen]; show _ ≤ 0 + (i + 1) * 5 + 5; omega
   have hnew : (((x.recs.take (i + 1)).flatMap layR.g).take ((i + 1) * (Try.prog.types[39]).size) ++ layR.g ⟨x.n, x.t, x.c, x.ttl, x.d[i + 1]⟩) = (x.recs.take (i + 1 + 1)).flatMap layR.g := by
    rw [hz, List.take_of_length_le (by rw [hlen]; exact Nat.le_refl _), zFl x (i + 1) h1, List.flatMap_append]; simp
   exact ⟨i + 1 + 1, h1, by show x.d.length - (i + 1 + 1) < x.d.length - (i + 1); omega, rcq [0, 3] ⟨⟨_, rfl, .ptr _ _ _ rfl⟩, ⟨_, rfl, .sl _ _ _ _ _ rfl⟩, ⟨_, rfl, zAg 8 rfl⟩, ⟨_, rfl, .int _ _⟩, zAl rfl (by rw [wrapN (by omega) (by omega)]; omega), trivial⟩ ⟨⟨by decide, _, rfl, RO.clos rfl⟩, ⟨by decide, _, rfl, zRh hnew (zAb layR.g layR.plain _)⟩, trivial⟩ .nil⟩
  ·have h1 : ¬ i + 1 < x.d.length := by have h1 : ¬ ((i + 1 : Nat) : Int) < (x.d.length : Int) := of_decide_eq_false h1; omega
   have he : x.recs.take (i + 1) = x.recs := List.take_of_length_le (by rw [zBu]; omega)
   have hl : i + 1 = x.recs.length := by rw [zBu]; omega
   refine And.intro rfl (zAz (rcq [1] (d := 6) (d2 := 1) (lv := [(3, .slice (some ⟨0, 0, none⟩) x.recs.length U)]) (bs := [(0, .cells (x.recs.flatMap layR.g) 39)]) (W := []) (m := 1) (df := []) ⟨⟨_, rfl, (by rw [← hl]; exact .sl _ _ _ _ _ rfl)⟩, trivial⟩ ⟨⟨by decide, _, rfl, zRh (by rw [he]) (zAb layR.g layR.plain _)⟩, trivial⟩ .nil) (fun f => ?_))
   exact ⟨_, _, _, _, rfl, .inr ⟨0, rfl, by decide, (fun e => by rw [e] at hl; simp at hl), rfl⟩⟩
def rrecsS (x : SetX) : Nat → (Nat → Option Value) → Fs
 | 0, f => ⟨slots 6 [(1, .pointer (some ⟨0, 0, none⟩)), (3, .slice none 0 0), (4, .int .i64 0)] f, heap 1 [(0, .cells x.cs 32)], 1, [], []⟩
 | i + 1, f => ⟨slots 6 [(1, .pointer (some ⟨0, 0, none⟩)), (3, .slice (some ⟨1, 0, none⟩) (i + 1) U), (4, .int .i64 ((i + 1 : Nat) : Int))] f, heap 2 [(0, .cells x.cs 32), (1, .cells ((x.recs.take (i + 1)).flatMap layR.g) 39)], 2, [], []⟩
theorem rrecs_tr (x : SetX) (hx : x.d.length ≤ 1000000) : ∃ r, FnS Try.prog 0 30 [x.v] .e 0 r ∧ ∃ v H k wr, r = .ret v H k wr ∧ NilOwn layR H v x.recs := by
 have hby : (Try.prog.types[39]).bytes ≤ 100 := by decide +kernel
 have hz : (Try.prog.types[39]).size = 5 := by kernel_rfl
 refine zEd mixed tbSt0 [] Try.func30 (c := bodyOf Try.f30) (by kernel_rfl) ?_
 refine zBg (rrecsS x) (fun i => x.d.length - i) (fun i => i ≤ x.d.length) 0 (Nat.zero_le _) (rcq [0] (d := 6) (d2 := 1) (bs := [(0, .cells x.cs 32)]) (m := 1) ⟨⟨_, rfl, .ptr _ _ _ rfl⟩, ⟨_, rfl, .snil _ _⟩, ⟨_, rfl, .int _ _⟩, trivial⟩ ⟨⟨by decide, _, rfl, RO.clos rfl⟩, trivial⟩ .nil) ?_
 intro i f hi
 have hi : i ≤ x.d.length := hi
 cases i with
 | zero =>
  refine zEe tbSt0 [] 0 _ none mixed _ _ _ ?_
  refine ifK (fun h1 => ?_) (fun h1 => ?_)
  ·have h1 : 0 < x.d.length := by have h1 : ((0 : Nat) : Int) < (x.d.length : Int) := of_decide_eq_true h1; omega
   refine And.intro (by kernel_rfl) ?_
   refine ifK (fun _ => ?_) (fun h2 => absurd h2 (by simp [inI]; try (intro e; rw [e] at h1; cases h1)))
   refine Exists.intro x.d[0] (And.intro (zAy layS h1) ?_)
   have hnew : layR.g ⟨x.n, x.t, x.c, x.ttl, x.d[0]⟩ = (x.recs.take (0 + 1)).flatMap layR.g := by rw [zFl x 0 h1]; exact (List.append_nil _).symm
   exact ⟨0 + 1, h1, by show x.d.length - (0 + 1) < x.d.length - 0; omega, rcq [0, 2] ⟨⟨_, rfl, .ptr _ _ _ rfl⟩, ⟨_, rfl, .sl _ _ _ _ _ rfl⟩, zAl rfl rfl, trivial⟩ ⟨⟨by decide, _, rfl, RO.clos rfl⟩, ⟨by decide, _, rfl, zRh hnew (zAb layR.g layR.plain _)⟩, trivial⟩ .nil⟩
  ·have h1 : ¬ 0 < x.d.length := by have h1 : ¬ ((0 : Nat) : Int) < (x.d.length : Int) := of_decide_eq_false h1; omega
   have he : x.recs = [] := List.eq_nil_of_length_eq_zero (by rw [zBu]; omega)
   exact And.intro rfl (zAz (rcq [] (d := 6) (d2 := 0) (lv := [(3, .slice none 0 0)]) (bs := []) (W := []) (m := 0) (df := []) ⟨⟨_, rfl, .snil _ _⟩, trivial⟩ trivial .nil) (fun f => ⟨_, _, _, _, rfl, .inl ⟨rfl, he⟩⟩))
 | succ i =>
  have hlen : ((x.recs.take (i + 1)).flatMap layR.g).length = (i + 1) * 5 := by rw [zAc layR.g 5 layR.len, List.length_take, zBu]; congr 1; omega
  refine zEe tbSt0 [] 0 _ none mixed _ _ _ ?_
  refine ifK (fun h1 => ?_) (fun h1 => ?_)
  ·have h1 : i + 1 < x.d.length := by have h1 : ((i + 1 : Nat) : Int) < (x.d.length : Int) := of_decide_eq_true h1; omega
   refine And.intro (by kernel_rfl) ?_
   refine ifK (fun _ => ?_) (fun h2 => absurd h2 (by simp [inI]; omega))
   refine Exists.intro x.d[i + 1] (And.intro (zAy layS h1) ?_)
   refine And.intro ?_ ?_
   ·have := Nat.mul_le_mul (show i + 1 + 1 ≤ 2000000 by omega) hby
    simp only [Bool.and_eq_true, decide_eq_true_eq]
    refine ⟨⟨⟨⟨⟨⟨rfl, rfl⟩, Nat.ble_eq_true_of_le ?_⟩, rfl⟩, ?_⟩, ?_⟩, Nat.ble_eq_true_of_le ?_⟩
    ·rw [hz, hlen]; exact Nat.le_refl _
    ·omega
    ·omega
    ·rw [hz, hlen]; show _ ≤ 0 + (i + 1) * 5 + 5; omega
   have hnew : (((x.recs.take (i + 1)).flatMap layR.g).take ((i + 1) * (Try.prog.types[39]).size) ++ layR.g ⟨x.n, x.t, x.c, x.ttl, x.d[i + 1]⟩) = (x.recs.take (i + 1 + 1)).flatMap layR.g := by
    rw [hz, List.take_of_length_le (by rw [hlen]; exact Nat.le_refl _), zFl x (i + 1) h1, List.flatMap_append]; simp
   exact ⟨i + 1 + 1, h1, by show x.d.length - (i + 1 + 1) < x.d.length - (i + 1); omega, rcq [0, 3] ⟨⟨_, rfl, .ptr _ _ _ rfl⟩, ⟨_, rfl, .sl _ _ _ _ _ rfl⟩, zAl rfl (by rw [wrapN (by omega) (by omega)]; omega), trivial⟩ ⟨⟨by decide, _, rfl, RO.clos rfl⟩, ⟨by decide, _, rfl, zRh hnew (zAb layR.g layR.plain _)⟩, trivial⟩ .nil⟩
  ·have h1 : ¬ i + 1 < x.d.length := by have h1 : ¬ ((i + 1 : Nat) : Int) < (x.d.length : Int) := of_decide_eq_false h1; omega
   have he : x.recs.take (i + 1) = x.recs := List.take_of_length_le (by rw [zBu]; omega)
   have hl : i + 1 = x.recs.length := by rw [zBu]; omega
   refine And.intro rfl (zAz (rcq [1] (d := 6) (d2 := 1) (lv := [(3, .slice (some ⟨0, 0, none⟩) x.recs.length U)]) (bs := [(0, .cells (x.recs.flatMap layR.g) 39)]) (W := []) (m := 1) (df := []) ⟨⟨_, rfl, (by rw [← hl]; exact .sl _ _ _ _ _ rfl)⟩, trivial⟩ ⟨⟨by decide, _, rfl, zRh (by rw [he]) (zAb layR.g layR.plain _)⟩, trivial⟩ .nil) (fun f => ?_))
   exact ⟨_, _, _, _, rfl, .inr ⟨0, rfl, by decide, (fun e => by rw [e] at hl; simp at hl), rfl⟩⟩
end Go.Proofs.Ytblhnenhonfpnaa
namespace Go.Proofs.Ytblhnenhonfpnaa
open Go Go.RowKit
noncomputable def ct_recsL : Ct Try.prog 0 := CtR.lend 25 LtT (fun x => [x.v]) LtT.at (fun x => [x.x.v]) (fun x => x.x.d.length ≤ 1000000) (fun x => trR x.x.recs) (fun _ _ _ e h k => LtT.uniq (by simpa using e) h k) (fun _ _ h => .cons _ _ _ _ (LtT.frz h) .nil)
 (fun x h => by obtain ⟨r, hF, v, H, k, wr, rfl, hz⟩ := recs_tr x.x h; exact ⟨_, _, _, _, hF, hz.frz (by kernel_rfl)⟩)
noncomputable def ct_rrecsT : Ct Try.prog 0 := CtR.tree 30 SetX (fun x => [x.v]) (fun x => x.d.length ≤ 1000000) (fun x => trR x.recs) (fun _ _ h => zQb h) (fun _ => rfl)
 (fun x h => by obtain ⟨r, hF, v, H, k, wr, rfl, hz⟩ := rrecs_tr x h; exact ⟨_, _, _, _, hF, hz.frz (by kernel_rfl)⟩)
noncomputable def zLm : Ct Try.prog 0 := CtR.tree 29 SetX (fun x => [x.v]) (fun x => shortB x.n = true) (fun x => .int .i64 x.chk) (fun _ _ h => zQb h) (fun _ => rfl)
 (fun x h => by obtain ⟨r, hF, H, k, wr, rfl⟩ := zMk x h; exact ⟨_, _, _, _, hF, .one _ _ (.plain _ rfl)⟩)
noncomputable def zNk : Ct Try.prog 0 := CtR.tree 33 (SetX × SetX) (fun x => [x.1.v, x.2.v]) (fun x => x.1.small ∧ x.2.small) (fun x => .bool (x.1.same x.2)) (fun a b h => by simp only [List.cons.injEq, and_true] at h; exact Prod.ext (SetX.v_inj h.1) (SetX.v_inj h.2)) (fun _ => rfl)
 (fun x h => by obtain ⟨r, hF, H, k, wr, rfl⟩ := zOh x.1 x.2 h.1 h.2; exact ⟨_, _, _, _, hF, .one _ _ (.plain _ rfl)⟩)
noncomputable def ct_rlessT : Ct Try.prog 0 := CtR.tree 32 (SetX × Int) (fun x => [x.1.v, .int .i64 x.2]) (fun x => x.1.d.length ≤ 1000000) (fun x => (x.1.less x.2).v) (fun a b h => by simp only [List.cons.injEq, Value.int.injEq, true_and, and_true] at h; exact Prod.ext (SetX.v_inj h.1) h.2) (fun _ => rfl)
 (fun x hf => by obtain ⟨r, hF, v, H, k, wr, rfl, hz⟩ := rless_tr x.1 x.2 hf; exact ⟨_, _, _, _, hF, hz⟩)
noncomputable def zQp : Ct Try.prog 0 := CtR.tree 36 (List ByteArray × List ByteArray) (fun x => [trS x.1, trS x.2]) (fun x => x.1.length ≤ 1000000000) (fun x => .bool (decide (x.1 = x.2))) (fun a b h => by simp only [List.cons.injEq, and_true] at h; exact Prod.ext (zBy layS h.1) (zBy layS h.2)) (fun _ => rfl)
 (fun x h => by obtain ⟨r, hF, H, k, wr, rfl⟩ := sameTx_tr x.1 x.2 h; exact ⟨_, _, _, _, hF, .one _ _ (.plain _ rfl)⟩)
noncomputable def tbSS : Tb Try.prog 0 := tbOf mixed [zQp]
theorem zRj (x : SetX) (hl : x.d.length ≤ 1000000000) : ∃ r, FnS Try.prog 0 31 [x.v, x.v] .e 0 r ∧ ∃ H m wr, r = .ret (.bool true) H m wr := by
 refine zEd mixed tbSS [] Try.func31 (c := bodyOf Try.f31) (by kernel_rfl) ?_
 refine ifK (fun _ => ?_) (fun h => absurd (show (x.n.data.toList == x.n.data.toList) = false from h) (by simp))
 refine ifK (fun _ => ?_) (fun h => absurd (show (x.t == x.t) = false from h) (by simp))
 refine ifK (fun _ => ?_) (fun h => absurd (show (x.c == x.c) = false from h) (by simp))
 refine ifK (fun _ => ?_) (fun h => absurd (show (x.ttl == x.ttl) = false from h) (by simp))
 refine Exists.intro (x.d, x.d) (And.intro ⟨rfl, hl⟩ ?_)
 exact ⟨_, _, _, congrArg (fun b => Res.ret (Value.bool b) _ _ _) (decide_eq_true rfl)⟩
def lessO (x : SetX) (n : Int) (H : Tr AObj) (m : Nat) : List ByteArray → Res
 | [] => .ret (.agg #[.string x.n, .int .i64 x.t, .int .i64 x.c, .int .i64 (x.less n).ttl, trS []]) H m []
 | y :: r => .ret (.agg #[.string x.n, .int .i64 x.t, .int .i64 x.c, .int .i64 (x.less n).ttl, .slice (some ⟨m, 0, none⟩) (r.length + 1) U]) (layN H m [((y :: r).flatMap layS.g, 9)]) (m + 1) []
noncomputable def ct_lessN : Ct Try.prog 0 :=
 CtR.ct { f := 27, X := LtT × Int, pre := fun x a H _ => a = [x.1.v, .int .i64 x.2] ∧ x.1.at H ∧ x.1.x.d.length ≤ 1000000, out := fun x H m => lessO x.1.x x.2 H m x.1.x.d,
          ok := fun x a H m ⟨h1, h2, h3⟩ => by
           subst h1
           obtain ⟨r, hF, dv, H', k, wr, rfl, ⟨rfl, e⟩ | ⟨b, rfl, hb, hl, h⟩⟩ := less_tr x.1.x x.2 h3
           ·show TOK _ _ _ _ (lessO _ _ _ _ x.1.x.d)
            rw [e]
            exact zEm hF (.cons _ _ _ _ (LtT.frz h2) (.cons _ _ _ _ (.one _ _ (.plain _ rfl)) .nil)) (.agg _ _ (.cons _ _ _ _ (.one _ _ (.plain _ rfl)) (.cons _ _ _ _ (.one _ _ (.plain _ rfl)) (.cons _ _ _ _ (.one _ _ (.plain _ rfl)) (.cons _ _ _ _ (.one _ _ (.plain _ rfl)) (.cons _ _ _ _ (.one _ _ (.em 1)) .nil))))))
           ·show TOK _ _ _ _ (lessO _ _ _ _ x.1.x.d)
            cases hd : x.1.x.d with
            | nil => exact absurd hd hl
            | cons y q =>
             rw [hd] at hF h
             refine zCe (fun m => .agg #[.string x.1.x.n, .int .i64 x.1.x.t, .int .i64 x.1.x.c, .int .i64 (x.1.x.less x.2).ttl, .slice (some ⟨m, 0, none⟩) (q.length + 1) U]) [b] [((y :: q).flatMap layS.g, 9)] hF (.cons _ _ _ _ (LtT.frz h2) (.cons _ _ _ _ (.one _ _ (.plain _ rfl)) .nil)) (by simp) (fun z hz => by simp at hz; subst hz; exact hb) rfl (fun i b' xs t hb' hc => ?_)
              (fun n => .agg _ _ (.cons _ _ _ _ (.plain _ rfl) (.cons _ _ _ _ (.plain _ rfl) (.cons _ _ _ _ (.plain _ rfl) (.cons _ _ _ _ (.plain _ rfl) (.cons _ _ _ _ (.sl _ _ _ _ _ (zDc (i := 0) (by simp) rfl)) .nil))))))
             match i, hb', hc with
             | 0, hb', hc => cases hb'; cases hc; exact ⟨[], by rw [List.append_nil]; exact h, zAb layS.g layS.plain _, .inl rfl⟩
             | i + 1, hb', hc => simp at hb',
          uniq := fun x y a H m ⟨h1, h2, _⟩ ⟨k1, k2, _⟩ => by
           rw [h1] at k1
           simp only [List.cons.injEq, Value.int.injEq, true_and, and_true] at k1
           have e1 := LtT.uniq k1.1 h2 k2
           obtain ⟨a, b⟩ := x
           obtain ⟨a', b'⟩ := y
           have e2 : b = b' := k1.2
           subst e1; subst e2; rfl,
          tr := fun x H m K => (x.1.x.d = [] → K (lessO x.1.x x.2 H m [])) ∧ ∀ y r, x.1.x.d = y :: r → K (lessO x.1.x x.2 H m (y :: r)),
          trOk := fun x H m K h => by
           show K (lessO _ _ _ _ x.1.x.d)
           cases e : x.1.x.d with
           | nil => exact h.1 e
           | cons y r => exact h.2 y r e }
noncomputable def zNl : Ct Try.prog 0 := CtR.lend 31 LtT (fun x => [x.v, x.x.v]) LtT.at (fun x => [x.x.v, x.x.v]) (fun x => x.x.d.length ≤ 1000000000) (fun _ => .bool true) (fun _ _ _ e h k => LtT.uniq (by simp only [List.cons.injEq, and_true] at e; exact e.1) h k) (fun _ _ h => .cons _ _ _ _ (LtT.frz h) (.cons _ _ _ _ (LtT.frz (SetX.lt_at _ _)) .nil))
 (fun x h => by obtain ⟨r, hF, H, k, wr, rfl⟩ := zRj x.x h; exact ⟨_, _, _, _, hF, .one _ _ (.plain _ rfl)⟩)
end Go.Proofs.Ytblhnenhonfpnaa
