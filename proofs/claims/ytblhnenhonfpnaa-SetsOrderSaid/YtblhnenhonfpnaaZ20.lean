/- DERIVED. Texts put together: St1, St2, St3, St4. -/
import Derived.Test.YtblhnenhonfpnaaZ12
import Derived.Test.YtblhnenhonfpnaaZ15
import Derived.Test.YtblhnenhonfpnaaZ19
set_option maxRecDepth 1000000
set_option maxHeartbeats 32000000
namespace Go.Proofs.Ytblhnenhonfpnaa
open Go Go.RowKit
structure SetX where
 n : ByteArray
 t : Int
 c : Int
 ttl : Int
 d : List ByteArray
def SetX.cs (x : SetX) : List Value := [.string x.n, .int .i64 x.t, .int .i64 x.c, .int .i64 x.ttl, trS x.d]
def SetX.v (x : SetX) : Value := .agg #[.string x.n, .int .i64 x.t, .int .i64 x.c, .int .i64 x.ttl, trS x.d]
theorem SetX.v_inj {a b : SetX} (h : a.v = b.v) : a = b := by
 obtain ⟨n, t, c, l, d⟩ := a
 obtain ⟨n', t', c', l', d'⟩ := b
 simp only [SetX.v, Value.agg.injEq, Array.mk.injEq, List.cons.injEq, Value.int.injEq, Value.string.injEq, true_and, and_true] at h
 obtain ⟨rfl, rfl, rfl, rfl, h⟩ := h
 have := zHz layS h
 subst this; rfl
def totS : List ByteArray → Nat
 | [] => 0
 | x :: l => totS l + x.size
theorem totS_take {l : List ByteArray} {i : Nat} (h : i < l.length) : totS (l.take (i + 1)) = totS (l.take i) + l[i].size := by
 induction l generalizing i with
 | nil => cases h
 | cons o l ih =>
  cases i with
  | zero => rfl
  | succ i =>
   have h' : i < l.length := by simpa using h
   have := ih (i := i) h'
   show totS (l.take (i + 1)) + _ = (totS (l.take i) + _) + _
   rw [this]
   show _ = totS (l.take i) + o.size + (l[i]'h').size
   omega
theorem totS_pre {l : List ByteArray} (i : Nat) : totS (l.take i) ≤ totS l := by
 induction l generalizing i with
 | nil => rw [List.take_nil]; exact Nat.le_refl _
 | cons o l ih => cases i with
  | zero => exact Nat.zero_le _
  | succ i => have := ih i; show totS (l.take i) + _ ≤ totS l + _; omega
def SetX.long (x : SetX) (most : Int) : Bool := decide ((x.d.length : Int) > most) || decide (2000 < x.n.size + totS x.d)
noncomputable def tbSt0 : Tb Try.prog 0 := tbOf mixed []
theorem zPo (x : SetX) (most : Int) (hl : x.d.length ≤ 9000000000000) (hb : x.n.size ≤ 140737488355328 ∧ ∀ s ∈ x.d, s.size ≤ 140737488355328) : ∃ r, FnS Try.prog 0 28 [x.v, .int .i64 most] .e 0 r ∧ ∃ H m wr, r = .ret (.bool (x.long most)) H m wr := by
 refine zPk mixed tbSt0 [] Try.func28 (c := bodyOf Try.f28) (by kernel_rfl) ?_
 obtain ⟨hb1, hb2⟩ := hb
 refine zJx (fun (i : Nat) f => ⟨slots 6 [(1, .int .i64 most), (2, .pointer (some ⟨0, 0, none⟩)), (5, .int .i64 ((x.n.size + totS (x.d.take i) : Nat) : Int)), (6, .int .i64 (i : Nat))] f, heap 1 [(0, .cells x.cs 32)], 1, [], []⟩) (fun i => x.d.length - i) (fun i => i ≤ x.d.length ∧ x.n.size + totS (x.d.take i) ≤ 281474976720656) 0 ⟨Nat.zero_le _, by show x.n.size + 0 ≤ _; omega⟩ (rcq [0] ⟨⟨_, rfl, .int _ _⟩, ⟨_, rfl, .ptr _ _ _ rfl⟩, ⟨_, rfl, .int _ _⟩, ⟨_, rfl, .int _ _⟩, trivial⟩ ⟨⟨by decide, _, rfl, RO.clos rfl⟩, trivial⟩ .nil) ?_
 rintro i f ⟨hi, hs⟩
 have fin : ∀ (h9 : x.d.length ≤ i ∨ 2000 < x.n.size + totS (x.d.take i)), decide (((x.n.size + totS (x.d.take i) : Nat) : Int) > 2000) = decide (2000 < x.n.size + totS x.d) := fun h9 => by
  have hp := totS_pre (l := x.d) i
  rcases h9 with h9 | h9
  ·rw [List.take_of_length_le h9]
   by_cases h : 2000 < x.n.size + totS x.d
   ·rw [decide_eq_true h, decide_eq_true (by omega)]
   ·rw [decide_eq_false h, decide_eq_false (by omega)]
  ·rw [decide_eq_true (show 2000 < x.n.size + totS x.d by omega), decide_eq_true (by omega)]
 refine sx_ok tbSt0 [] 0 _ none mixed _ _ _ ?_
 refine ifK (fun h1 => ?_) (fun h1 => ?_)
 ·have h1 : i < x.d.length := by have h1 : ((i : Nat) : Int) < (x.d.length : Int) := of_decide_eq_true h1; omega
  refine ifK (fun h2 => ?_) (fun h2 => ?_)
  ·have h2 : x.n.size + totS (x.d.take i) ≤ 2000 := by have h2 : ((x.n.size + totS (x.d.take i) : Nat) : Int) ≤ 2000 := of_decide_eq_true h2; omega
   have hx := hb2 x.d[i] (List.getElem_mem h1)
   have ht := totS_take h1
   refine ifK (fun _ => ?_) (fun h2 => absurd h2 (by simp [inI]; omega))
   refine Exists.intro x.d[i] (And.intro (zKm layS h1) ?_)
   have hw : IntKind.i64.wrap (((x.n.size + totS (x.d.take i) : Nat) : Int) + (x.d[i].data.size : Int)) = ((x.n.size + totS (x.d.take (i + 1)) : Nat) : Int) := by
    have hx' : x.d[i].data.size ≤ 140737488355328 := hx
    have ht' : totS (x.d.take (i + 1)) = totS (x.d.take i) + x.d[i].data.size := ht
    rw [wrapN (by omega) (by omega)]; omega
   exact ⟨i + 1, ⟨h1, by show x.n.size + totS (x.d.take (i + 1)) ≤ _; omega⟩, by show x.d.length - (i + 1) < x.d.length - i; omega, rcq [0] ⟨⟨_, rfl, .int _ _⟩, ⟨_, rfl, .ptr _ _ _ rfl⟩, zGs rfl hw, zGs rfl (by rw [wrapN (by omega) (by omega)]; omega), trivial⟩ ⟨⟨by decide, _, rfl, RO.clos rfl⟩, trivial⟩ .nil⟩
  ·have h2 : 2000 < x.n.size + totS (x.d.take i) := by have h2 : ¬ ((x.n.size + totS (x.d.take i) : Nat) : Int) ≤ 2000 := of_decide_eq_false h2; omega
   refine And.intro rfl (zHk (rcq [0] (d := 6) (d2 := 1) (lv := [(1, .int .i64 most), (2, .pointer (some ⟨0, 0, none⟩)), (5, .int .i64 ((x.n.size + totS (x.d.take i) : Nat) : Int))]) (bs := [(0, .cells x.cs 32)]) (W := []) (m := 1) (df := []) ⟨⟨_, rfl, .int _ _⟩, ⟨_, rfl, .ptr _ _ _ rfl⟩, ⟨_, rfl, .int _ _⟩, trivial⟩ ⟨⟨by decide, _, rfl, RO.clos rfl⟩, trivial⟩ .nil) (fun f => ?_))
   refine ifK (fun h3 => ?_) (fun h3 => ?_)
   ·rw [show x.long most = true by unfold SetX.long; rw [show decide ((x.d.length : Int) > most) = true from h3]; rfl]
    exact ⟨_, _, _, rfl⟩
   ·rw [show x.long most = decide (((x.n.size + totS (x.d.take i) : Nat) : Int) > 2000) by unfold SetX.long; rw [show decide ((x.d.length : Int) > most) = false from h3, fin (.inr h2)]; rfl]
    exact ⟨_, _, _, rfl⟩
 ·have h1 : ¬ i < x.d.length := by have h1 : ¬ ((i : Nat) : Int) < (x.d.length : Int) := of_decide_eq_false h1; omega
  refine And.intro rfl (zHk (rcq [0] (d := 6) (d2 := 1) (lv := [(1, .int .i64 most), (2, .pointer (some ⟨0, 0, none⟩)), (5, .int .i64 ((x.n.size + totS (x.d.take i) : Nat) : Int))]) (bs := [(0, .cells x.cs 32)]) (W := []) (m := 1) (df := []) ⟨⟨_, rfl, .int _ _⟩, ⟨_, rfl, .ptr _ _ _ rfl⟩, ⟨_, rfl, .int _ _⟩, trivial⟩ ⟨⟨by decide, _, rfl, RO.clos rfl⟩, trivial⟩ .nil) (fun f => ?_))
  refine ifK (fun h3 => ?_) (fun h3 => ?_)
  ·rw [show x.long most = true by unfold SetX.long; rw [show decide ((x.d.length : Int) > most) = true from h3]; rfl]
   exact ⟨_, _, _, rfl⟩
  ·rw [show x.long most = decide (((x.n.size + totS (x.d.take i) : Nat) : Int) > 2000) by unfold SetX.long; rw [show decide ((x.d.length : Int) > most) = false from h3, fin (.inl (by omega))]; rfl]
   exact ⟨_, _, _, rfl⟩
end Go.Proofs.Ytblhnenhonfpnaa
namespace Go.Proofs.Ytblhnenhonfpnaa
open Go Go.RowKit
theorem equalS_tr (a b : List ByteArray) (hl : a.length ≤ 1000000000) : ∃ r, FnS Try.prog 0 46 [trS a, trS b] .e 0 r ∧ ∃ H m wr, r = .ret (.bool (decide (a = b))) H m wr := by
 refine zPk mixed tbSt0 [] Try.func46 (c := bodyOf Try.f46) (by kernel_rfl) ?_
 refine ifK (fun g => ?_) (fun g => ?_)
 ·have g : ((a.length : Int) != (b.length : Int)) = true := g
  rw [show decide (a = b) = false from decide_eq_false (fun e => by subst e; simp at g)]
  exact ⟨_, _, _, rfl⟩
 have g : ((a.length : Int) != (b.length : Int)) = false := g
 have hlen : a.length = b.length := by simp at g; omega
 refine zJx (fun (i : Nat) f => ⟨slots 5 [(1, trS b), (11, trS a), (12, .int .i64 (a.length : Nat)), (13, .int .i64 (i : Nat)), (0, trS a)] f, heap 0 [], 0, [], []⟩) (fun i => a.length - i) (fun i => i ≤ a.length ∧ a.take i = b.take i) 0 ⟨Nat.zero_le _, rfl⟩ (rcq [] ⟨⟨_, rfl, zCa 8 rfl⟩, ⟨_, rfl, zCa 8 rfl⟩, ⟨_, rfl, .int _ _⟩, ⟨_, rfl, .int _ _⟩, ⟨_, rfl, zCa 8 rfl⟩, trivial⟩ trivial .nil) ?_
 rintro i f ⟨hi, heq⟩
 refine sx_ok tbSt0 [] 0 _ none mixed _ _ _ ?_
 refine ifK (fun h1 => ?_) (fun h1 => ?_)
 ·have h1 : i < a.length := by have h1 : ((i : Nat) : Int) < (a.length : Int) := of_decide_eq_true h1; omega
  have h2 : i < b.length := by omega
  refine And.intro (by kernel_rfl) ?_
  refine ifK (fun _ => ?_) (fun h2 => absurd h2 (by simp [inI]; omega))
  refine Exists.intro a[i] (And.intro (zKm layS h1) ?_)
  refine ifK (fun _ => ?_) (fun h2 => absurd h2 (by simp [inI]; omega))
  refine Exists.intro b[i] (And.intro (zKm layS h2) ?_)
  refine ifK (fun h3 => ?_) (fun h3 => ?_)
  ·have h3 : (!(a[i].data.toList == b[i].data.toList)) = true := h3
   have e : decide (a = b) = false := decide_eq_false (fun e => by rw [get_of_eq h1 h2 e] at h3; simp at h3)
   refine And.intro rfl (zHk (rcq [] (d := 5) (d2 := 0) (lv := [(4, .bool false)]) (bs := []) (W := []) (m := 0) (df := []) ⟨⟨_, rfl, zKa 8 rfl⟩, trivial⟩ trivial .nil) (fun f => ?_))
   rw [e]; exact ⟨_, _, _, rfl⟩
  ·have h3 : (!(a[i].data.toList == b[i].data.toList)) = false := h3
   have h3 : a[i].data.toList = b[i].data.toList := by simpa using h3
   exact ⟨i + 1, ⟨h1, take_step h1 h2 heq (toL_inj h3)⟩, by show a.length - (i + 1) < a.length - i; omega, rcq [] ⟨⟨_, rfl, zCa 8 rfl⟩, ⟨_, rfl, zCa 8 rfl⟩, ⟨_, rfl, .int _ _⟩, zGs rfl (by rw [wrapN (by omega) (by omega)]; omega), ⟨_, rfl, zCa 8 rfl⟩, trivial⟩ trivial .nil⟩
 ·have h1 : ¬ i < a.length := by have h1 : ¬ ((i : Nat) : Int) < (a.length : Int) := of_decide_eq_false h1; omega
  have e : a = b := by have := heq; rwa [List.take_of_length_le (by omega), List.take_of_length_le (by omega)] at this
  refine And.intro rfl (zHk (rcq [] (d := 5) (d2 := 0) (lv := []) (bs := []) (W := []) (m := 0) (df := []) trivial trivial .nil) (fun f => ?_))
  rw [decide_eq_true e]; exact ⟨_, _, _, rfl⟩
structure LtS where
 l : List ByteArray
 v : Value
noncomputable def ct_equalL : Ct Try.prog 0 := CtR.lend 46 (LtS × LtS) (fun x => [x.1.v, x.2.v]) (fun x H => LtL layS H x.1.v x.1.l ∧ LtL layS H x.2.v x.2.l) (fun x => [trS x.1.l, trS x.2.l]) (fun x => x.1.l.length ≤ 1000000000) (fun x => .bool (decide (x.1.l = x.2.l)))
 (fun x y H e h k => by
  obtain ⟨⟨l, v⟩, ⟨l2, v2⟩⟩ := x
  obtain ⟨⟨m, u⟩, ⟨m2, u2⟩⟩ := y
  simp only [List.cons.injEq, and_true] at e
  obtain ⟨rfl, rfl⟩ := e
  have e1 : l = m := h.1.uniq k.1
  have e2 : l2 = m2 := h.2.uniq k.2
  subst e1; subst e2; rfl) (fun x H h => .cons _ _ _ _ (h.1.frz (by kernel_rfl)) (.cons _ _ _ _ (h.2.frz (by kernel_rfl)) .nil))
 (fun x hf => by obtain ⟨r, hF, H, k, wr, rfl⟩ := equalS_tr x.1.l x.2.l hf; exact ⟨_, _, _, _, hF, .one _ _ (.plain _ rfl)⟩)
def SetX.same (a b : SetX) : Bool := (a.t == b.t) && (a.c == b.c) && zBj (bs a.n) (bs b.n) && (a.d.length == b.d.length) && decide (sortS a.d = sortS b.d)
noncomputable def tbSm : Tb Try.prog 0 := tbOf mixed [ct_same, zNx, ct_sort, ct_equalL]
def SetX.small (x : SetX) : Prop := shortB x.n = true ∧ x.d.length ≤ 1000000
theorem zQc (a b : SetX) (ha : a.small) (hb : b.small) : ∃ r, FnS Try.prog 0 22 [a.v, b.v] .e 0 r ∧ ∃ H m wr, r = .ret (.bool (a.same b)) H m wr := by
 obtain ⟨a1, a2⟩ := ha
 obtain ⟨b1, b2⟩ := hb
 refine zPk mixed tbSm [] Try.func22 (c := bodyOf Try.f22) (by kernel_rfl) ?_
 refine ifK (fun h => ?_) (fun h => ?_)
 ·have h : (a.t != b.t) = true := h
  rw [show a.same b = false by unfold SetX.same; rw [show (a.t == b.t) = false by simpa [bne] using h]; rfl]
  exact ⟨_, _, _, rfl⟩
 have h1 : (a.t == b.t) = true := by have h : (a.t != b.t) = false := h; simpa [bne] using h
 refine ifK (fun h => ?_) (fun h => ?_)
 ·have h : (a.c != b.c) = true := h
  rw [show a.same b = false by unfold SetX.same; rw [show (a.c == b.c) = false by simpa [bne] using h]; simp]
  exact ⟨_, _, _, rfl⟩
 have h2 : (a.c == b.c) = true := by have h : (a.c != b.c) = false := h; simpa [bne] using h
 refine And.intro (by rw [a1, b1]; rfl) ?_
 refine ifK (fun h => ?_) (fun h => ?_)
 ·have h : (!zBj (bs a.n) (bs b.n)) = true := h
  rw [show a.same b = false by unfold SetX.same; rw [show zBj (bs a.n) (bs b.n) = false by simpa using h]; simp]
  exact ⟨_, _, _, rfl⟩
 have h3 : zBj (bs a.n) (bs b.n) = true := by have h : (!zBj (bs a.n) (bs b.n)) = false := h; simpa using h
 refine ifK (fun h => ?_) (fun h => ?_)
 ·have h : ((a.d.length : Int) != (b.d.length : Int)) = true := h
  rw [show a.same b = false by unfold SetX.same; rw [show (a.d.length == b.d.length) = false by simp at h ⊢; omega]; simp]
  exact ⟨_, _, _, rfl⟩
 have h4 : a.d.length = b.d.length := by have h : ((a.d.length : Int) != (b.d.length : Int)) = false := h; simp at h; omega
 rw [show a.same b = decide (sortS a.d = sortS b.d) by unfold SetX.same; rw [h1, h2, h3, h4]; simp]
 refine And.intro (by kernel_rfl) ?_
 refine Exists.intro a.d (And.intro ⟨rfl, a2⟩ ?_)
 refine And.intro (fun e => ?_) (fun x r e => ?_)
 ·refine Exists.intro b.d (And.intro ⟨rfl, b2⟩ ?_)
  refine And.intro (fun e2 => ?_) (fun x2 r2 e2 => ?_)
  ·rw [show decide (sortS a.d = sortS b.d) = true by rw [show a.d = [] from e, show b.d = [] from e2]; exact decide_eq_true rfl]
   refine Exists.intro () (And.intro rfl ?_)
   refine Exists.intro () (And.intro rfl ?_)
   refine Exists.intro (⟨[], trS []⟩, ⟨[], trS []⟩) (And.intro ⟨rfl, ⟨.tree _ _ _, .tree _ _ _⟩, Nat.zero_le _⟩ ?_)
   exact ⟨_, _, _, rfl⟩
  ·rw [e, e2] at h4; cases h4
 ·refine Exists.intro b.d (And.intro ⟨rfl, b2⟩ ?_)
  refine And.intro (fun e2 => ?_) (fun x2 r2 e2 => ?_)
  ·rw [e, e2] at h4; cases h4
  ·have e : a.d = x :: r := e
   have e2 : b.d = x2 :: r2 := e2
   rw [e, e2]
   rw [e] at a2
   rw [e2] at b2
   have own : ∀ (y : ByteArray) (q : List ByteArray) (k : Nat) (H : Tr AObj), k < JJ → H.get k = some (.cells ((sortS (y :: q)).flatMap layS.g) 9) → LtL layS H (.slice (some ⟨k, 0, none⟩) (q.length + 1) U) (sortS (y :: q)) := fun y q k H hk h => by
    have := LtL.own (L := layS) (c := U) (l := sortS (y :: q)) [] hk (.inl rfl) h (by rw [List.append_nil])
    rw [zLq] at this
    exact this
   refine Exists.intro (x :: r, 2) (And.intro ⟨rfl, ⟨by simp, a2⟩, by kernel_rfl⟩ ?_)
   refine Exists.intro (x2 :: r2, 3) (And.intro ⟨rfl, ⟨by simp, b2⟩, by kernel_rfl⟩ ?_)
   refine Exists.intro (⟨sortS (x :: r), .slice (some ⟨2, 0, none⟩) (r.length + 1) U⟩, ⟨sortS (x2 :: r2), .slice (some ⟨3, 0, none⟩) (r2.length + 1) U⟩) (And.intro ⟨rfl, ⟨own x r 2 _ (by decide) (by kernel_rfl), own x2 r2 3 _ (by decide) (by kernel_rfl)⟩, by show (sortS (x :: r)).length ≤ _; rw [zLq]; omega⟩ ?_)
   exact ⟨_, _, _, rfl⟩
end Go.Proofs.Ytblhnenhonfpnaa
namespace Go.Proofs.Ytblhnenhonfpnaa
open Go Go.RowKit
noncomputable def zPl : Ct Try.prog 0 := Ct.inl (tbOf mixed []) mixed [] 42 Try.f42 Try.func42 (bodyOf Try.f42) (by kernel_rfl)
def okK (seen : List ByteArray) : List ByteArray → Bool
 | [] => true
 | d :: r => !hasS seen d && (decide (d.size ≤ 65535) && okK (seen ++ [d]) r)
def SetX.fine (x : SetX) : Bool := decide ((labels (bs x.n)).2 = 0) && (decide (x.t ≥ 0) && (decide (x.t ≤ 65535) && (decide (x.c ≥ 0) && (decide (x.c ≤ 65535) && (decide (x.ttl ≥ 0) && (decide (x.ttl < 2147483648) && (decide (x.d.length ≥ 1) && decide (x.d.length ≤ 64))))))))
def SetX.chk (x : SetX) : Int := if x.fine then (if okK [] x.d then 0 else 2) else 2
noncomputable def tbSc : Tb Try.prog 0 := tbOf mixed [ct_check, zPl]
theorem zNk (x : SetX) (hx : shortB x.n = true) : ∃ r, FnS Try.prog 0 20 [x.v] .e 0 r ∧ ∃ H m wr, r = .ret (.int .i64 x.chk) H m wr := by
 have bad : x.fine = false → x.chk = 2 := fun h => by unfold SetX.chk; rw [h]; rfl
 refine zPk mixed tbSc [] Try.func20 (c := bodyOf Try.f20) (by kernel_rfl) ?_
 refine And.intro hx ?_
 refine ifK (fun h => ?_) (fun g1 => ?_)
 ·have h : ((labels (bs x.n)).2 != 0) = true := h
  rw [bad (by unfold SetX.fine; rw [decide_eq_false (by simpa using h)]; rfl)]
  exact ⟨_, _, _, rfl⟩
 have g1 : decide ((labels (bs x.n)).2 = 0) = true := by have g1 : ((labels (bs x.n)).2 != 0) = false := g1; simpa using g1
 refine ifK (fun g2 => ?_) (fun h => ?_)
 rotate_left
 ·rw [bad (by unfold SetX.fine; rw [show decide (x.t ≥ 0) = false from h]; simp)]
  exact ⟨_, _, _, rfl⟩
 refine ifK (fun h => ?_) (fun g3 => ?_)
 ·have h : (!decide (x.t ≤ 65535)) = true := h
  rw [bad (by unfold SetX.fine; rw [show decide (x.t ≤ 65535) = false by simpa using h]; simp)]
  exact ⟨_, _, _, rfl⟩
 have g3 : decide (x.t ≤ 65535) = true := by have g3 : (!decide (x.t ≤ 65535)) = false := g3; simpa using g3
 refine ifK (fun g4 => ?_) (fun h => ?_)
 rotate_left
 ·rw [bad (by unfold SetX.fine; rw [show decide (x.c ≥ 0) = false from h]; simp)]
  exact ⟨_, _, _, rfl⟩
 refine ifK (fun h => ?_) (fun g5 => ?_)
 ·have h : (!decide (x.c ≤ 65535)) = true := h
  rw [bad (by unfold SetX.fine; rw [show decide (x.c ≤ 65535) = false by simpa using h]; simp)]
  exact ⟨_, _, _, rfl⟩
 have g5 : decide (x.c ≤ 65535) = true := by have g5 : (!decide (x.c ≤ 65535)) = false := g5; simpa using g5
 refine ifK (fun h => ?_) (fun g6 => ?_)
 ·have h : decide (x.ttl < 0) = true := h
  rw [bad (by unfold SetX.fine; rw [show decide (x.ttl ≥ 0) = false by have := of_decide_eq_true h; exact decide_eq_false (by omega)]; simp)]
  exact ⟨_, _, _, rfl⟩
 have g6 : decide (x.ttl ≥ 0) = true := by have g6 : decide (x.ttl < 0) = false := g6; have := of_decide_eq_false g6; exact decide_eq_true (by omega)
 refine ifK (fun h => ?_) (fun g7 => ?_)
 ·have h : decide (x.ttl ≥ 2147483648) = true := h
  rw [bad (by unfold SetX.fine; rw [show decide (x.ttl < 2147483648) = false by have := of_decide_eq_true h; exact decide_eq_false (by omega)]; simp)]
  exact ⟨_, _, _, rfl⟩
 have g7 : decide (x.ttl < 2147483648) = true := by have g7 : decide (x.ttl ≥ 2147483648) = false := g7; have := of_decide_eq_false g7; exact decide_eq_true (by omega)
 refine ifK (fun h => ?_) (fun g8 => ?_)
 ·have h : decide ((x.d.length : Int) < 1) = true := h
  rw [bad (by unfold SetX.fine; rw [show decide (x.d.length ≥ 1) = false by have := of_decide_eq_true h; exact decide_eq_false (by omega)]; simp)]
  exact ⟨_, _, _, rfl⟩
 have g8 : decide (x.d.length ≥ 1) = true := by have g8 : decide ((x.d.length : Int) < 1) = false := g8; have := of_decide_eq_false g8; exact decide_eq_true (by omega)
 refine ifK (fun h => ?_) (fun g9 => ?_)
 ·have h : decide ((x.d.length : Int) > 64) = true := h
  rw [bad (by unfold SetX.fine; rw [show decide (x.d.length ≤ 64) = false by have := of_decide_eq_true h; exact decide_eq_false (by omega)]; simp)]
  exact ⟨_, _, _, rfl⟩
 have g9 : decide (x.d.length ≤ 64) = true := by have g9 : decide ((x.d.length : Int) > 64) = false := g9; have := of_decide_eq_false g9; exact decide_eq_true (by omega)
 have hl : x.d.length ≤ 64 := of_decide_eq_true g9
 have fine : x.fine = true := by unfold SetX.fine; rw [g1, show decide (x.t ≥ 0) = true from g2, g3, show decide (x.c ≥ 0) = true from g4, g5, g6, g7, g8, g9]; rfl
 rw [show x.chk = if okK [] x.d then 0 else 2 by unfold SetX.chk; rw [fine]; rfl]
 refine zJx (fun (i : Nat) f => ⟨slots 7 [(4, .map (some 0)), (51, trS x.d), (52, .int .i64 (x.d.length : Nat)), (53, .int .i64 (i : Nat))] f, heap 1 [(0, .map (encK (x.d.take i)) i)], 1, [], []⟩) (fun i => x.d.length - i) (fun i => i ≤ x.d.length ∧ (x.d.take i).Nodup ∧ okK [] x.d = okK (x.d.take i) (x.d.drop i)) 0 ⟨Nat.zero_le _, by simp, rfl⟩ (rcq [1] ⟨⟨_, rfl, .map _ _ rfl⟩, ⟨_, rfl, zCa 8 rfl⟩, ⟨_, rfl, .int _ _⟩, ⟨_, rfl, .int _ _⟩, trivial⟩ ⟨⟨by decide, _, rfl, met_ro [] 0⟩, trivial⟩ .nil) ?_
 rintro i f ⟨hi, hnd, heq⟩
 refine sx_ok tbSc [900005, 900006] 0 _ none mixed _ _ _ ?_
 refine ifK (fun h1 => ?_) (fun h1 => ?_)
 ·have h1 : i < x.d.length := by have h1 : ((i : Nat) : Int) < (x.d.length : Int) := of_decide_eq_true h1; omega
  have hst : okK (x.d.take i) (x.d.drop i) = (!hasS (x.d.take i) x.d[i] && (decide (x.d[i].size ≤ 65535) && okK (x.d.take (i + 1)) (x.d.drop (i + 1)))) := by rw [List.drop_eq_getElem_cons h1, List.take_succ_eq_append_getElem h1]; rfl
  rw [hst] at heq
  refine ifK (fun _ => ?_) (fun h2 => absurd h2 (by simp [inI]; omega))
  refine Exists.intro x.d[i] (And.intro (zKm layS h1) ?_)
  cases hm : hasS (x.d.take i) x.d[i] with
  | true =>
   have hmem := zOf.1 hm
   rw [show okK [] x.d = false by rw [heq, hm]; rfl]
   refine Exists.intro (.tuple #[.agg #[], .bool true]) (Exists.intro [] (Exists.intro 0 (And.intro (aop_metY (e := 62) (l := x.d.take i) rfl rfl rfl (by kernel_rfl) rfl hnd hmem) ?_)))
   exact And.intro rfl (zHk (rcq [] (d := 7) (d2 := 0) (lv := [(2, .int .i64 2)]) (bs := []) (W := []) (m := 0) (df := []) ⟨⟨_, rfl, .int _ _⟩, trivial⟩ trivial .nil) (fun f => ⟨_, _, _, rfl⟩))
  | false =>
   have hmem : x.d[i] ∉ x.d.take i := fun h => by rw [zOf.2 h] at hm; cases hm
   rw [hm] at heq
   refine Exists.intro (.tuple #[.agg #[], .bool false]) (Exists.intro [] (Exists.intro 0 (And.intro (aop_metN (e := 62) (l := x.d.take i) rfl rfl rfl (by kernel_rfl) (by kernel_rfl) rfl hmem) ?_)))
   refine ifK (fun h3 => ?_) (fun h3 => ?_)
   ·have h3 : decide ((x.d[i].data.size : Int) > 65535) = true := h3
    have h3 : (x.d[i].size : Int) > 65535 := of_decide_eq_true h3
    rw [show okK [] x.d = false by rw [heq, show decide (x.d[i].size ≤ 65535) = false from decide_eq_false (by omega)]; rfl]
    exact And.intro rfl (zHk (rcq [] (d := 7) (d2 := 0) (lv := [(2, .int .i64 2)]) (bs := []) (W := []) (m := 0) (df := []) ⟨⟨_, rfl, .int _ _⟩, trivial⟩ trivial .nil) (fun f => ⟨_, _, _, rfl⟩))
   ·have h3 : decide ((x.d[i].data.size : Int) > 65535) = false := h3
    have h3 : ¬ (x.d[i].size : Int) > 65535 := of_decide_eq_false h3
    rw [show decide (x.d[i].size ≤ 65535) = true from decide_eq_true (by omega)] at heq
    refine Exists.intro undef (Exists.intro [(0, some (.map (encK (x.d.take i ++ [x.d[i]])) (i + 1)))] (Exists.intro 0 (And.intro (aop_meet (e := 62) (l := x.d.take i) rfl rfl rfl rfl (by kernel_rfl) rfl hmem) ?_)))
    have htk : x.d.take (i + 1) = x.d.take i ++ [x.d[i]] := List.take_succ_eq_append_getElem h1
    refine ⟨i + 1, ⟨h1, ?_, heq⟩, by show x.d.length - (i + 1) < x.d.length - i; omega, rcq [0] ⟨⟨_, rfl, .map _ _ rfl⟩, ⟨_, rfl, zCa 8 rfl⟩, ⟨_, rfl, .int _ _⟩, zGs rfl (by rw [wrapN (by omega) (by omega)]; omega), trivial⟩ ⟨⟨by decide, _, rfl, by rw [htk]; exact met_ro _ _⟩, trivial⟩ .nil⟩
    rw [htk, List.nodup_append]
    exact ⟨hnd, by simp, fun a ha b hb => by simp at hb; subst hb; exact fun e => hmem (by rw [← e]; exact ha)⟩
 ·have h1 : ¬ i < x.d.length := by have h1 : ¬ ((i : Nat) : Int) < (x.d.length : Int) := of_decide_eq_false h1; omega
  rw [show okK [] x.d = true by rw [heq, List.drop_eq_nil_of_le (by omega)]; rfl]
  refine And.intro rfl (zHk (rcq [] (d := 7) (d2 := 0) (lv := []) (bs := []) (W := []) (m := 0) (df := []) trivial trivial .nil) (fun f => ?_))
  exact ⟨_, _, _, rfl⟩
end Go.Proofs.Ytblhnenhonfpnaa
namespace Go.Proofs.Ytblhnenhonfpnaa
open Go Go.RowKit
structure LtT where
 x : SetX
 d : Value
def LtT.v (y : LtT) : Value := .agg #[.string y.x.n, .int .i64 y.x.t, .int .i64 y.x.c, .int .i64 y.x.ttl, y.d]
def LtT.at (y : LtT) (H : Tr AObj) : Prop := LtL layS H y.d y.x.d
theorem LtT.uniq {x y : LtT} {H : Tr AObj} (q : x.v = y.v) (h : x.at H) (k : y.at H) : x = y := by
 obtain ⟨⟨n, t, c, l, d⟩, v⟩ := x
 obtain ⟨⟨n', t', c', l', d'⟩, v'⟩ := y
 simp only [LtT.v, Value.agg.injEq, Array.mk.injEq, List.cons.injEq, Value.int.injEq, Value.string.injEq, true_and, and_true] at q
 obtain ⟨rfl, rfl, rfl, rfl, rfl⟩ := q
 have e1 : d = d' := LtL.uniq h k
 subst e1; rfl
theorem LtT.frz {x : LtT} {H : Tr AObj} (h : x.at H) : FrzP True Try.prog 0 H x.v x.x.v :=
 .agg _ _ (.cons _ _ _ _ (.one _ _ (.plain _ rfl)) (.cons _ _ _ _ (.one _ _ (.plain _ rfl)) (.cons _ _ _ _ (.one _ _ (.plain _ rfl)) (.cons _ _ _ _ (.one _ _ (.plain _ rfl)) (.cons _ _ _ _ (LtL.frz (by kernel_rfl) h) .nil)))))
def SetX.lt (x : SetX) : LtT := ⟨x, trS x.d⟩
noncomputable def zMj : Ct Try.prog 0 := CtR.lend 20 LtT (fun x => [x.v]) LtT.at (fun x => [x.x.v]) (fun x => shortB x.x.n = true) (fun x => .int .i64 x.x.chk) (fun _ _ _ e h k => LtT.uniq (by simpa using e) h k) (fun _ _ h => .cons _ _ _ _ (LtT.frz h) .nil)
 (fun x h => by obtain ⟨r, hF, H, k, wr, rfl⟩ := zNk x.x h; exact ⟨_, _, _, _, hF, .one _ _ (.plain _ rfl)⟩)
noncomputable def zPf : Ct Try.prog 0 := CtR.lend 22 (LtT × LtT) (fun x => [x.1.v, x.2.v]) (fun x H => x.1.at H ∧ x.2.at H) (fun x => [x.1.x.v, x.2.x.v]) (fun x => x.1.x.small ∧ x.2.x.small) (fun x => .bool (x.1.x.same x.2.x))
 (fun x y H e h k => by simp only [List.cons.injEq, and_true] at e; exact Prod.ext (LtT.uniq e.1 h.1 k.1) (LtT.uniq e.2 h.2 k.2)) (fun x H h => .cons _ _ _ _ (LtT.frz h.1) (.cons _ _ _ _ (LtT.frz h.2) .nil))
 (fun x hf => by obtain ⟨r, hF, H, k, wr, rfl⟩ := zQc x.1.x x.2.x hf.1 hf.2; exact ⟨_, _, _, _, hF, .one _ _ (.plain _ rfl)⟩)
def SetX.fit (x : SetX) : Prop := x.d.length ≤ 9000000000000 ∧ x.n.size ≤ 140737488355328 ∧ ∀ s ∈ x.d, s.size ≤ 140737488355328
noncomputable def zPe : Ct Try.prog 0 := CtR.tree 28 (SetX × Int) (fun x => [x.1.v, .int .i64 x.2]) (fun x => x.1.fit) (fun x => .bool (x.1.long x.2)) (fun a b h => by simp only [List.cons.injEq, Value.int.injEq, true_and, and_true] at h; exact Prod.ext (SetX.v_inj h.1) h.2) (fun _ => rfl)
 (fun x hf => by obtain ⟨r, hF, H, m, wr, rfl⟩ := zPo x.1 x.2 hf.1 hf.2; exact ⟨_, _, _, _, hF, .one _ _ (.plain _ rfl)⟩)
def SetX.less (x : SetX) (n : Int) : SetX := ⟨x.n, x.t, x.c, if n < 0 then x.ttl else if x.ttl < n then minI x.ttl 0 else IntKind.i64.wrap (x.ttl - n), x.d⟩
noncomputable def tbLs : Tb Try.prog 0 := tbOf mixed [zNx]
theorem less_tr (x : SetX) (n : Int) (hl : x.d.length ≤ 1000000) : ∃ r, FnS Try.prog 0 27 [x.v, .int .i64 n] .e 0 r ∧ ∃ dv H k wr, r = .ret (.agg #[.string x.n, .int .i64 x.t, .int .i64 x.c, .int .i64 (x.less n).ttl, dv]) H k wr ∧ ((dv = trS [] ∧ x.d = []) ∨ ∃ b, dv = .slice (some ⟨b, 0, none⟩) x.d.length U ∧ b < JJ ∧ x.d ≠ [] ∧ H.get b = some (.cells (x.d.flatMap layS.g) 9)) := by
 refine zPk mixed tbLs [] Try.func27 (c := bodyOf Try.f27) (by kernel_rfl) ?_
 refine Exists.intro x.d (And.intro ⟨rfl, hl⟩ ?_)
 refine And.intro (fun e => ?_) (fun y r e => ?_)
 ·have e : x.d = [] := e
  refine ifK (fun h => ?_) (fun h => ?_)
  ·have h : n < 0 := of_decide_eq_true h
   rw [show (x.less n).ttl = x.ttl by unfold SetX.less; rw [if_pos h]]
   exact ⟨_, _, _, _, rfl, .inl ⟨rfl, e⟩⟩
  have h : ¬ n < 0 := of_decide_eq_false h
  refine ifK (fun h2 => ?_) (fun h2 => ?_)
  ·have h2 : x.ttl < n := of_decide_eq_true h2
   rw [show (x.less n).ttl = minI x.ttl 0 by unfold SetX.less; rw [if_neg h, if_pos h2]]
   exact ⟨_, _, _, _, rfl, .inl ⟨rfl, e⟩⟩
  ·have h2 : ¬ x.ttl < n := of_decide_eq_false h2
   rw [show (x.less n).ttl = IntKind.i64.wrap (x.ttl - n) by unfold SetX.less; rw [if_neg h, if_neg h2]]
   exact ⟨_, _, _, _, rfl, .inl ⟨rfl, e⟩⟩
 ·have e : x.d = y :: r := e
  refine ifK (fun h => ?_) (fun h => ?_)
  ·have h : n < 0 := of_decide_eq_true h
   rw [show (x.less n).ttl = x.ttl by unfold SetX.less; rw [if_pos h], e]
   exact ⟨_, _, _, _, rfl, .inr ⟨2, rfl, by decide, by simp, by kernel_rfl⟩⟩
  have h : ¬ n < 0 := of_decide_eq_false h
  refine ifK (fun h2 => ?_) (fun h2 => ?_)
  ·have h2 : x.ttl < n := of_decide_eq_true h2
   rw [show (x.less n).ttl = minI x.ttl 0 by unfold SetX.less; rw [if_neg h, if_pos h2], e]
   exact ⟨_, _, _, _, rfl, .inr ⟨2, rfl, by decide, by simp, by kernel_rfl⟩⟩
  ·have h2 : ¬ x.ttl < n := of_decide_eq_false h2
   rw [show (x.less n).ttl = IntKind.i64.wrap (x.ttl - n) by unfold SetX.less; rw [if_neg h, if_neg h2], e]
   exact ⟨_, _, _, _, rfl, .inr ⟨2, rfl, by decide, by simp, by kernel_rfl⟩⟩
noncomputable def ct_lessT : Ct Try.prog 0 := CtR.tree 27 (SetX × Int) (fun x => [x.1.v, .int .i64 x.2]) (fun x => x.1.d.length ≤ 1000000) (fun x => (x.1.less x.2).v) (fun a b h => by simp only [List.cons.injEq, Value.int.injEq, true_and, and_true] at h; exact Prod.ext (SetX.v_inj h.1) h.2) (fun _ => rfl)
 (fun x hf => by
  obtain ⟨r, hF, dv, H, m, wr, rfl, hd⟩ := less_tr x.1 x.2 hf
  have hz : FrzP True Try.prog 0 H dv (trS x.1.d) := by
   rcases hd with ⟨rfl, e⟩ | ⟨b, rfl, hb, _, h⟩
   ·rw [e]; exact .one _ _ (.deep _ _ _ _ _ _ trivial)
   ·exact .one _ _ (zJt layS _ hb h (by kernel_rfl) rfl rfl)
  exact ⟨_, _, _, _, hF, .agg _ _ (.cons _ _ _ _ (.one _ _ (.plain _ rfl)) (.cons _ _ _ _ (.one _ _ (.plain _ rfl)) (.cons _ _ _ _ (.one _ _ (.plain _ rfl)) (.cons _ _ _ _ (.one _ _ (.plain _ rfl)) (.cons _ _ _ _ hz .nil)))))⟩)
theorem same_self (a : SetX) : a.same a = decide ((labels (bs a.n)).2 = 0) := by
 unfold SetX.same zBj
 simp
theorem same_sym (a b : SetX) : a.same b = b.same a := by
 unfold SetX.same zBj
 have e1 : (a.t == b.t) = (b.t == a.t) := by rw [Bool.eq_iff_iff, beq_iff_eq, beq_iff_eq]; exact eq_comm
 have e2 : (a.c == b.c) = (b.c == a.c) := by rw [Bool.eq_iff_iff, beq_iff_eq, beq_iff_eq]; exact eq_comm
 have e3 : (a.d.length == b.d.length) = (b.d.length == a.d.length) := by rw [Bool.eq_iff_iff, beq_iff_eq, beq_iff_eq]; exact eq_comm
 rw [e1, e2, e3, decide_eq_decide.2 (show sortS a.d = sortS b.d ↔ sortS b.d = sortS a.d from eq_comm), decide_eq_decide.2 (show ((labels (bs a.n)).2 = 0 ∧ (labels (bs b.n)).2 = 0 ∧ lower (bs a.n) = lower (bs b.n)) ↔ ((labels (bs b.n)).2 = 0 ∧ (labels (bs a.n)).2 = 0 ∧ lower (bs b.n) = lower (bs a.n)) from ⟨fun ⟨h1, h2, h3⟩ => ⟨h2, h1, h3.symm⟩, fun ⟨h1, h2, h3⟩ => ⟨h2, h1, h3.symm⟩⟩)]
theorem same_iff (a b : SetX) : a.same b = true ↔ a.t = b.t ∧ a.c = b.c ∧ ((labels (bs a.n)).2 = 0 ∧ (labels (bs b.n)).2 = 0 ∧ lower (bs a.n) = lower (bs b.n)) ∧ a.d.length = b.d.length ∧ sortS a.d = sortS b.d := by
 unfold SetX.same zBj
 simp only [Bool.and_eq_true, beq_iff_eq, decide_eq_true_eq, and_assoc]
theorem zQb {a b c : SetX} (h : a.same b = true) (k : b.same c = true) : a.same c = true := by
 rw [same_iff] at *
 obtain ⟨h1, h2, ⟨h3, h4, h5⟩, h6, h7⟩ := h
 obtain ⟨k1, k2, ⟨k3, k4, k5⟩, k6, k7⟩ := k
 exact ⟨h1.trans k1, h2.trans k2, ⟨h3, k4, h5.trans k5⟩, h6.trans k6, h7.trans k7⟩
theorem same_less (a : SetX) (n : Int) : (a.less n).same a = a.same a := rfl
end Go.Proofs.Ytblhnenhonfpnaa
