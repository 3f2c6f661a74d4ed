/- DERIVED. Texts put together: St1, St2, St3, St4, St5, St6, St7, St8, St9, St10. -/
import Derived.Test.YtblhnenhonfpnaaZ12
import Derived.Test.YtblhnenhonfpnaaZ15
import Derived.Test.YtblhnenhonfpnaaZ19
set_option maxRecDepth 1000000
set_option maxHeartbeats 32000000
namespace Go.Proofs.Ytblhnenhonfpnaa
open Go Go.RowKit
structure SetX where
 n : ByteArray
 t : Int
 c : Int
 ttl : Int
 d : List ByteArray
def SetX.cs (x : SetX) : List Value := [.string x.n, .int .i64 x.t, .int .i64 x.c, .int .i64 x.ttl, trS x.d]
def SetX.v (x : SetX) : Value := .agg #[.string x.n, .int .i64 x.t, .int .i64 x.c, .int .i64 x.ttl, trS x.d]
theorem SetX.v_inj {a b : SetX} (h : a.v = b.v) : a = b := by
 obtain ⟨n, t, c, l, d⟩ := a
 obtain ⟨n', t', c', l', d'⟩ := b
 simp only [SetX.v, Value.agg.injEq, Array.mk.injEq, List.cons.injEq, Value.int.injEq, Value.string.injEq, true_and, and_true] at h
 obtain ⟨rfl, rfl, rfl, rfl, h⟩ := h
 have := zFv layS h
 subst this; rfl
def totS : List ByteArray → Nat
 | [] => 0
 | x :: l => totS l + x.size
def SetX.long (x : SetX) (most : Int) : Bool := decide ((x.d.length : Int) > most) || decide (2000 < x.n.size + totS x.d)
noncomputable def tbSt0 : Tb Try.prog 0 := tbOf mixed []
end Go.Proofs.Ytblhnenhonfpnaa
namespace Go.Proofs.Ytblhnenhonfpnaa
open Go Go.RowKit
theorem equalS_tr (a b : List ByteArray) (hl : a.length ≤ 1000000000) : ∃ r, FnS Try.prog 0 46 [trS a, trS b] .e 0 r ∧ ∃ H m wr, r = .ret (.bool (decide (a = b))) H m wr := by
 refine zMe mixed tbSt0 [] Try.func46 (c := bodyOf Try.f46) (by kernel_rfl) ?_
 refine ifK (fun g => ?_) (fun g => ?_)
 ·have g : ((a.length : Int) != (b.length : Int)) = true := g
  rw [show decide (a = b) = false from decide_eq_false (fun e => by subst e; simp at g)]
  exact ⟨_, _, _, rfl⟩
 have g : ((a.length : Int) != (b.length : Int)) = false := g
 have hlen : a.length = b.length := by simp at g; omega
 refine zCf (fun (i : Nat) f => ⟨slots 5 [(1, trS b), (11, trS a), (12, .int .i64 (a.length : Nat)), (13, .int .i64 (i : Nat)), (0, trS a)] f, heap 0 [], 0, [], []⟩) (fun i => a.length - i) (fun i => i ≤ a.length ∧ a.take i = b.take i) 0 ⟨Nat.zero_le _, rfl⟩ (rcq [] ⟨⟨_, rfl, zAa 8 rfl⟩, ⟨_, rfl, zAa 8 rfl⟩, ⟨_, rfl, .int _ _⟩, ⟨_, rfl, .int _ _⟩, ⟨_, rfl, zAa 8 rfl⟩, trivial⟩ trivial .nil) ?_
 rintro i f ⟨hi, heq⟩
 refine zGp tbSt0 [] 0 _ none mixed _ _ _ ?_
 refine ifK (fun h1 => ?_) (fun h1 => ?_)
 ·have h1 : i < a.length := by have h1 : ((i : Nat) : Int) < (a.length : Int) := of_decide_eq_true h1; omega
  have h2 : i < b.length := by omega
  refine And.intro (by kernel_rfl) ?_
  refine ifK (fun _ => ?_) (fun h2 => absurd h2 (by simp [inI]; omega))
  refine Exists.intro a[i] (And.intro (zEx layS h1) ?_)
  refine ifK (fun _ => ?_) (fun h2 => absurd h2 (by simp [inI]; omega))
  refine Exists.intro b[i] (And.intro (zEx layS h2) ?_)
  refine ifK (fun h3 => ?_) (fun h3 => ?_)
  ·have h3 : (!(a[i].data.toList == b[i].data.toList)) = true := h3
   have e : decide (a = b) = false := decide_eq_false (fun e => by rw [get_of_eq h1 h2 e] at h3; simp at h3)
   refine And.intro rfl (zCp (rcq [] (d := 5) (d2 := 0) (lv := [(4, .bool false)]) (bs := []) (W := []) (m := 0) (df := []) ⟨⟨_, rfl, zLc 8 rfl⟩, trivial⟩ trivial .nil) (fun f => ?_))
   rw [e]; exact ⟨_, _, _, rfl⟩
  ·have h3 : (!(a[i].data.toList == b[i].data.toList)) = false := h3
   have h3 : a[i].data.toList = b[i].data.toList := by simpa using h3
   exact ⟨i + 1, ⟨h1, take_step h1 h2 heq (toL_inj h3)⟩, by show a.length - (i + 1) < a.length - i; omega, rcq [] ⟨⟨_, rfl, zAa 8 rfl⟩, ⟨_, rfl, zAa 8 rfl⟩, ⟨_, rfl, .int _ _⟩, zAu rfl (by rw [wrapN (by omega) (by omega)]; omega), ⟨_, rfl, zAa 8 rfl⟩, trivial⟩ trivial .nil⟩
 ·have h1 : ¬ i < a.length := by have h1 : ¬ ((i : Nat) : Int) < (a.length : Int) := of_decide_eq_false h1; omega
  have e : a = b := by have := heq; rwa [List.take_of_length_le (by omega), List.take_of_length_le (by omega)] at this
  refine And.intro rfl (zCp (rcq [] (d := 5) (d2 := 0) (lv := []) (bs := []) (W := []) (m := 0) (df := []) trivial trivial .nil) (fun f => ?_))
  rw [decide_eq_true e]; exact ⟨_, _, _, rfl⟩
structure LtS where
 l : List ByteArray
 v : Value
noncomputable def ct_equalL : Ct Try.prog 0 := CtR.lend 46 (LtS × LtS) (fun x => [x.1.v, x.2.v]) (fun x H => LtL layS H x.1.v x.1.l ∧ LtL layS H x.2.v x.2.l) (fun x => [trS x.1.l, trS x.2.l]) (fun x => x.1.l.length ≤ 1000000000) (fun x => .bool (decide (x.1.l = x.2.l)))
 (fun x y H e h k => by
  obtain ⟨⟨l, v⟩, ⟨l2, v2⟩⟩ := x
  obtain ⟨⟨m, u⟩, ⟨m2, u2⟩⟩ := y
  simp only [List.cons.injEq, and_true] at e
  obtain ⟨rfl, rfl⟩ := e
  have e1 : l = m := h.1.uniq k.1
  have e2 : l2 = m2 := h.2.uniq k.2
  subst e1; subst e2; rfl) (fun x H h => .cons _ _ _ _ (h.1.frz (by kernel_rfl)) (.cons _ _ _ _ (h.2.frz (by kernel_rfl)) .nil))
 (fun x hf => by obtain ⟨r, hF, H, k, wr, rfl⟩ := equalS_tr x.1.l x.2.l hf; exact ⟨_, _, _, _, hF, .one _ _ (.plain _ rfl)⟩)
def SetX.same (a b : SetX) : Bool := (a.t == b.t) && (a.c == b.c) && zCa (bs a.n) (bs b.n) && (a.d.length == b.d.length) && decide (sortS a.d = sortS b.d)
noncomputable def tbSm : Tb Try.prog 0 := tbOf mixed [ct_same, ct_clone, ct_sort, ct_equalL]
def SetX.small (x : SetX) : Prop := shortB x.n = true ∧ x.d.length ≤ 1000000
theorem zSe (a b : SetX) (ha : a.small) (hb : b.small) : ∃ r, FnS Try.prog 0 22 [a.v, b.v] .e 0 r ∧ ∃ H m wr, r = .ret (.bool (a.same b)) H m wr := by
 obtain ⟨a1, a2⟩ := ha
 obtain ⟨b1, b2⟩ := hb
 refine zMe mixed tbSm [] Try.func22 (c := bodyOf Try.f22) (by kernel_rfl) ?_
 refine ifK (fun h => ?_) (fun h => ?_)
 ·have h : (a.t != b.t) = true := h
  rw [show a.same b = false by unfold SetX.same; rw [show (a.t == b.t) = false by simpa [bne] using h]; rfl]
  exact ⟨_, _, _, rfl⟩
 have h1 : (a.t == b.t) = true := by have h : (a.t != b.t) = false := h; simpa [bne] using h
 refine ifK (fun h => ?_) (fun h => ?_)
 ·have h : (a.c != b.c) = true := h
  rw [show a.same b = false by unfold SetX.same; rw [show (a.c == b.c) = false by simpa [bne] using h]; simp]
  exact ⟨_, _, _, rfl⟩
 have h2 : (a.c == b.c) = true := by have h : (a.c != b.c) = false := h; simpa [bne] using h
 refine And.intro (by rw [a1, b1]; rfl) ?_
 refine ifK (fun h => ?_) (fun h => ?_)
 ·have h : (!zCa (bs a.n) (bs b.n)) = true := h
  rw [show a.same b = false by unfold SetX.same; rw [show zCa (bs a.n) (bs b.n) = false by simpa using h]; simp]
  exact ⟨_, _, _, rfl⟩
 have h3 : zCa (bs a.n) (bs b.n) = true := by have h : (!zCa (bs a.n) (bs b.n)) = false := h; simpa using h
 refine ifK (fun h => ?_) (fun h => ?_)
 ·have h : ((a.d.length : Int) != (b.d.length : Int)) = true := h
  rw [show a.same b = false by unfold SetX.same; rw [show (a.d.length == b.d.length) = false by simp at h ⊢; omega]; simp]
  exact ⟨_, _, _, rfl⟩
 have h4 : a.d.length = b.d.length := by have h : ((a.d.length : Int) != (b.d.length : Int)) = false := h; simp at h; omega
 rw [show a.same b = decide (sortS a.d = sortS b.d) by unfold SetX.same; rw [h1, h2, h3, h4]; simp]
 refine And.intro (by kernel_rfl) ?_
 refine Exists.intro a.d (And.intro ⟨rfl, a2⟩ ?_)
 refine And.intro (fun e => ?_) (fun x r e => ?_)
 ·refine Exists.intro b.d (And.intro ⟨rfl, b2⟩ ?_)
  refine And.intro (fun e2 => ?_) (fun x2 r2 e2 => ?_)
  ·rw [show decide (sortS a.d = sortS b.d) = true by rw [show a.d = [] from e, show b.d = [] from e2]; exact decide_eq_true rfl]
   refine Exists.intro () (And.intro rfl ?_)
   refine Exists.intro () (And.intro rfl ?_)
   refine Exists.intro (⟨[], trS []⟩, ⟨[], trS []⟩) (And.intro ⟨rfl, ⟨.tree _ _ _, .tree _ _ _⟩, Nat.zero_le _⟩ ?_)
   exact ⟨_, _, _, rfl⟩
  ·rw [e, e2] at h4; cases h4
 ·refine Exists.intro b.d (And.intro ⟨rfl, b2⟩ ?_)
  refine And.intro (fun e2 => ?_) (fun x2 r2 e2 => ?_)
  ·rw [e, e2] at h4; cases h4
  ·have e : a.d = x :: r := e
   have e2 : b.d = x2 :: r2 := e2
   rw [e, e2]
   rw [e] at a2
   rw [e2] at b2
   have own : ∀ (y : ByteArray) (q : List ByteArray) (k : Nat) (H : Tr AObj), k < JJ → H.get k = some (.cells ((sortS (y :: q)).flatMap layS.g) 9) → LtL layS H (.slice (some ⟨k, 0, none⟩) (q.length + 1) U) (sortS (y :: q)) := fun y q k H hk h => by
    have := LtL.own (L := layS) (c := U) (l := sortS (y :: q)) [] hk (.inl rfl) h (by rw [List.append_nil])
    rw [zNg] at this
    exact this
   refine Exists.intro (x :: r, 2) (And.intro ⟨rfl, ⟨by simp, a2⟩, by kernel_rfl⟩ ?_)
   refine Exists.intro (x2 :: r2, 3) (And.intro ⟨rfl, ⟨by simp, b2⟩, by kernel_rfl⟩ ?_)
   refine Exists.intro (⟨sortS (x :: r), .slice (some ⟨2, 0, none⟩) (r.length + 1) U⟩, ⟨sortS (x2 :: r2), .slice (some ⟨3, 0, none⟩) (r2.length + 1) U⟩) (And.intro ⟨rfl, ⟨own x r 2 _ (by decide) (by kernel_rfl), own x2 r2 3 _ (by decide) (by kernel_rfl)⟩, by show (sortS (x :: r)).length ≤ _; rw [zNg]; omega⟩ ?_)
   exact ⟨_, _, _, rfl⟩
end Go.Proofs.Ytblhnenhonfpnaa
namespace Go.Proofs.Ytblhnenhonfpnaa
open Go Go.RowKit
noncomputable def zRp : Ct Try.prog 0 := Ct.inl (tbOf mixed []) mixed [] 42 Try.f42 Try.func42 (bodyOf Try.f42) (by kernel_rfl)
def okK (seen : List ByteArray) : List ByteArray → Bool
 | [] => true
 | d :: r => !hasS seen d && (decide (d.size ≤ 65535) && okK (seen ++ [d]) r)
def SetX.fine (x : SetX) : Bool := decide ((labels (bs x.n)).2 = 0) && (decide (x.t ≥ 0) && (decide (x.t ≤ 65535) && (decide (x.c ≥ 0) && (decide (x.c ≤ 65535) && (decide (x.ttl ≥ 0) && (decide (x.ttl < 2147483648) && (decide (x.d.length ≥ 1) && decide (x.d.length ≤ 64))))))))
def SetX.chk (x : SetX) : Int := if x.fine then (if okK [] x.d then 0 else 2) else 2
noncomputable def tbSc : Tb Try.prog 0 := tbOf mixed [ct_check, zRp]
theorem zPe (x : SetX) (hx : shortB x.n = true) : ∃ r, FnS Try.prog 0 20 [x.v] .e 0 r ∧ ∃ H m wr, r = .ret (.int .i64 x.chk) H m wr := by
 have bad : x.fine = false → x.chk = 2 := fun h => by unfold SetX.chk; rw [h]; rfl
 refine zMe mixed tbSc [] Try.func20 (c := bodyOf Try.f20) (by kernel_rfl) ?_
 refine And.intro hx ?_
 refine ifK (fun h => ?_) (fun g1 => ?_)
 ·have h : ((labels (bs x.n)).2 != 0) = true := h
  rw [bad (by unfold SetX.fine; rw [decide_eq_false (by simpa using h)]; rfl)]
  exact ⟨_, _, _, rfl⟩
 have g1 : decide ((labels (bs x.n)).2 = 0) = true := by have g1 : ((labels (bs x.n)).2 != 0) = false := g1; simpa using g1
 refine ifK (fun g2 => ?_) (fun h => ?_)
 rotate_left
 ·rw [bad (by unfold SetX.fine; rw [show decide (x.t ≥ 0) = false from h]; simp)]
  exact ⟨_, _, _, rfl⟩
 refine ifK (fun h => ?_) (fun g3 => ?_)
 ·have h : (!decide (x.t ≤ 65535)) = true := h
  rw [bad (by unfold SetX.fine; rw [show decide (x.t ≤ 65535) = false by simpa using h]; simp)]
  exact ⟨_, _, _, rfl⟩
 have g3 : decide (x.t ≤ 65535) = true := by have g3 : (!decide (x.t ≤ 65535)) = false := g3; simpa using g3
 refine ifK (fun g4 => ?_) (fun h => ?_)
 rotate_left
 ·rw [bad (by unfold SetX.fine; rw [show decide (x.c ≥ 0) = false from h]; simp)]
  exact ⟨_, _, _, rfl⟩
 refine ifK (fun h => ?_) (fun g5 => ?_)
 ·have h : (!decide (x.c ≤ 65535)) = true := h
  rw [bad (by unfold SetX.fine; rw [show decide (x.c ≤ 65535) = false by simpa using h]; simp)]
  exact ⟨_, _, _, rfl⟩
 have g5 : decide (x.c ≤ 65535) = true := by have g5 : (!decide (x.c ≤ 65535)) = false := g5; simpa using g5
 refine ifK (fun h => ?_) (fun g6 => ?_)
 ·have h : decide (x.ttl < 0) = true := h
  rw [bad (by unfold SetX.fine; rw [show decide (x.ttl ≥ 0) = false by have := of_decide_eq_true h; exact decide_eq_false (by omega)]; simp)]
  exact ⟨_, _, _, rfl⟩
 have g6 : decide (x.ttl ≥ 0) = true := by have g6 : decide (x.ttl < 0) = false := g6; have := of_decide_eq_false g6; exact decide_eq_true (by omega)
 refine ifK (fun h => ?_) (fun g7 => ?_)
 ·have h : decide (x.ttl ≥ 2147483648) = true := h
  rw [bad (by unfold SetX.fine; rw [show decide (x.ttl < 2147483648) = false by have := of_decide_eq_true h; exact decide_eq_false (by omega)]; simp)]
  exact ⟨_, _, _, rfl⟩
 have g7 : decide (x.ttl < 2147483648) = true := by have g7 : decide (x.ttl ≥ 2147483648) = false := g7; have := of_decide_eq_false g7; exact decide_eq_true (by omega)
 refine ifK (fun h => ?_) (fun g8 => ?_)
 ·have h : decide ((x.d.length : Int) < 1) = true := h
  rw [bad (by unfold SetX.fine; rw [show decide (x.d.length ≥ 1) = false by have := of_decide_eq_true h; exact decide_eq_false (by omega)]; simp)]
  exact ⟨_, _, _, rfl⟩
 have g8 : decide (x.d.length ≥ 1) = true := by have g8 : decide ((x.d.length : Int) < 1) = false := g8; have := of_decide_eq_false g8; exact decide_eq_true (by omega)
 refine ifK (fun h => ?_) (fun g9 => ?_)
 ·have h : decide ((x.d.length : Int) > 64) = true := h
  rw [bad (by unfold SetX.fine; rw [show decide (x.d.length ≤ 64) = false by have := of_decide_eq_true h; exact decide_eq_false (by omega)]; simp)]
  exact ⟨_, _, _, rfl⟩
 have g9 : decide (x.d.length ≤ 64) = true := by have g9 : decide ((x.d.length : Int) > 64) = false := g9; have := of_decide_eq_false g9; exact decide_eq_true (by omega)
 have hl : x.d.length ≤ 64 := of_decide_eq_true g9
 have fine : x.fine = true := by unfold SetX.fine; rw [g1, show decide (x.t ≥ 0) = true from g2, g3, show decide (x.c ≥ 0) = true from g4, g5, g6, g7, g8, g9]; rfl
 rw [show x.chk = if okK [] x.d then 0 else 2 by unfold SetX.chk; rw [fine]; rfl]
 refine zCf (fun (i : Nat) f => ⟨slots 7 [(4, .map (some 0)), (51, trS x.d), (52, .int .i64 (x.d.length : Nat)), (53, .int .i64 (i : Nat))] f, heap 1 [(0, .map (encK (x.d.take i)) i)], 1, [], []⟩) (fun i => x.d.length - i) (fun i => i ≤ x.d.length ∧ (x.d.take i).Nodup ∧ okK [] x.d = okK (x.d.take i) (x.d.drop i)) 0 ⟨Nat.zero_le _, by simp, rfl⟩ (rcq [1] ⟨⟨_, rfl, .map _ _ rfl⟩, ⟨_, rfl, zAa 8 rfl⟩, ⟨_, rfl, .int _ _⟩, ⟨_, rfl, .int _ _⟩, trivial⟩ ⟨⟨by decide, _, rfl, met_ro [] 0⟩, trivial⟩ .nil) ?_
 rintro i f ⟨hi, hnd, heq⟩
 refine zGp tbSc [900005, 900006] 0 _ none mixed _ _ _ ?_
 refine ifK (fun h1 => ?_) (fun h1 => ?_)
 ·have h1 : i < x.d.length := by have h1 : ((i : Nat) : Int) < (x.d.length : Int) := of_decide_eq_true h1; omega
  have hst : okK (x.d.take i) (x.d.drop i) = (!hasS (x.d.take i) x.d[i] && (decide (x.d[i].size ≤ 65535) && okK (x.d.take (i + 1)) (x.d.drop (i + 1)))) := by rw [List.drop_eq_getElem_cons h1, List.take_succ_eq_append_getElem h1]; rfl
  rw [hst] at heq
  refine ifK (fun _ => ?_) (fun h2 => absurd h2 (by simp [inI]; omega))
  refine Exists.intro x.d[i] (And.intro (zEx layS h1) ?_)
  cases hm : hasS (x.d.take i) x.d[i] with
  | true =>
   have hmem := zQc.1 hm
   rw [show okK [] x.d = false by rw [heq, hm]; rfl]
   refine Exists.intro (.tuple #[.agg #[], .bool true]) (Exists.intro [] (Exists.intro 0 (And.intro (aop_metY (e := 62) (l := x.d.take i) rfl rfl rfl (by kernel_rfl) rfl hnd hmem) ?_)))
   exact And.intro rfl (zCp (rcq [] (d := 7) (d2 := 0) (lv := [(2, .int .i64 2)]) (bs := []) (W := []) (m := 0) (df := []) ⟨⟨_, rfl, .int _ _⟩, trivial⟩ trivial .nil) (fun f => ⟨_, _, _, rfl⟩))
  | false =>
   have hmem : x.d[i] ∉ x.d.take i := fun h => by rw [zQc.2 h] at hm; cases hm
   rw [hm] at heq
   refine Exists.intro (.tuple #[.agg #[], .bool false]) (Exists.intro [] (Exists.intro 0 (And.intro (aop_metN (e := 62) (l := x.d.take i) rfl rfl rfl (by kernel_rfl) (by kernel_rfl) rfl hmem) ?_)))
   refine ifK (fun h3 => ?_) (fun h3 => ?_)
   ·have h3 : decide ((x.d[i].data.size : Int) > 65535) = true := h3
    have h3 : (x.d[i].size : Int) > 65535 := of_decide_eq_true h3
    rw [show okK [] x.d = false by rw [heq, show decide (x.d[i].size ≤ 65535) = false from decide_eq_false (by omega)]; rfl]
    exact And.intro rfl (zCp (rcq [] (d := 7) (d2 := 0) (lv := [(2, .int .i64 2)]) (bs := []) (W := []) (m := 0) (df := []) ⟨⟨_, rfl, .int _ _⟩, trivial⟩ trivial .nil) (fun f => ⟨_, _, _, rfl⟩))
   ·have h3 : decide ((x.d[i].data.size : Int) > 65535) = false := h3
    have h3 : ¬ (x.d[i].size : Int) > 65535 := of_decide_eq_false h3
    rw [show decide (x.d[i].size ≤ 65535) = true from decide_eq_true (by omega)] at heq
    refine Exists.intro undef (Exists.intro [(0, some (.map (encK (x.d.take i ++ [x.d[i]])) (i + 1)))] (Exists.intro 0 (And.intro (aop_meet (e := 62) (l := x.d.take i) rfl rfl rfl rfl (by kernel_rfl) rfl hmem) ?_)))
    have htk : x.d.take (i + 1) = x.d.take i ++ [x.d[i]] := List.take_succ_eq_append_getElem h1
    refine ⟨i + 1, ⟨h1, ?_, heq⟩, by show x.d.length - (i + 1) < x.d.length - i; omega, rcq [0] ⟨⟨_, rfl, .map _ _ rfl⟩, ⟨_, rfl, zAa 8 rfl⟩, ⟨_, rfl, .int _ _⟩, zAu rfl (by rw [wrapN (by omega) (by omega)]; omega), trivial⟩ ⟨⟨by decide, _, rfl, by rw [htk]; exact met_ro _ _⟩, trivial⟩ .nil⟩
    rw [htk, List.nodup_append]
    exact ⟨hnd, by simp, fun a ha b hb => by simp at hb; subst hb; exact fun e => hmem (by rw [← e]; exact ha)⟩
 ·have h1 : ¬ i < x.d.length := by have h1 : ¬ ((i : Nat) : Int) < (x.d.length : Int) := of_decide_eq_false h1; omega
  rw [show okK [] x.d = true by rw [heq, List.drop_eq_nil_of_le (by omega)]; rfl]
  refine And.intro rfl (zCp (rcq [] (d := 7) (d2 := 0) (lv := []) (bs := []) (W := []) (m := 0) (df := []) trivial trivial .nil) (fun f => ?_))
  exact ⟨_, _, _, rfl⟩
end Go.Proofs.Ytblhnenhonfpnaa
namespace Go.Proofs.Ytblhnenhonfpnaa
open Go Go.RowKit
structure LtT where
 x : SetX
 d : Value
def LtT.v (y : LtT) : Value := .agg #[.string y.x.n, .int .i64 y.x.t, .int .i64 y.x.c, .int .i64 y.x.ttl, y.d]
def LtT.at (y : LtT) (H : Tr AObj) : Prop := LtL layS H y.d y.x.d
theorem LtT.uniq {x y : LtT} {H : Tr AObj} (q : x.v = y.v) (h : x.at H) (k : y.at H) : x = y := by
 obtain ⟨⟨n, t, c, l, d⟩, v⟩ := x
 obtain ⟨⟨n', t', c', l', d'⟩, v'⟩ := y
 simp only [LtT.v, Value.agg.injEq, Array.mk.injEq, List.cons.injEq, Value.int.injEq, Value.string.injEq, true_and, and_true] at q
 obtain ⟨rfl, rfl, rfl, rfl, rfl⟩ := q
 have e1 : d = d' := LtL.uniq h k
 subst e1; rfl
theorem LtT.frz {x : LtT} {H : Tr AObj} (h : x.at H) : FrzP True Try.prog 0 H x.v x.x.v :=
 .agg _ _ (.cons _ _ _ _ (.one _ _ (.plain _ rfl)) (.cons _ _ _ _ (.one _ _ (.plain _ rfl)) (.cons _ _ _ _ (.one _ _ (.plain _ rfl)) (.cons _ _ _ _ (.one _ _ (.plain _ rfl)) (.cons _ _ _ _ (LtL.frz (by kernel_rfl) h) .nil)))))
def SetX.lt (x : SetX) : LtT := ⟨x, trS x.d⟩
noncomputable def zOb : Ct Try.prog 0 := CtR.lend 20 LtT (fun x => [x.v]) LtT.at (fun x => [x.x.v]) (fun x => shortB x.x.n = true) (fun x => .int .i64 x.x.chk) (fun _ _ _ e h k => LtT.uniq (by simpa using e) h k) (fun _ _ h => .cons _ _ _ _ (LtT.frz h) .nil)
 (fun x h => by obtain ⟨r, hF, H, k, wr, rfl⟩ := zPe x.x h; exact ⟨_, _, _, _, hF, .one _ _ (.plain _ rfl)⟩)
noncomputable def zRi : Ct Try.prog 0 := CtR.lend 22 (LtT × LtT) (fun x => [x.1.v, x.2.v]) (fun x H => x.1.at H ∧ x.2.at H) (fun x => [x.1.x.v, x.2.x.v]) (fun x => x.1.x.small ∧ x.2.x.small) (fun x => .bool (x.1.x.same x.2.x))
 (fun x y H e h k => by simp only [List.cons.injEq, and_true] at e; exact Prod.ext (LtT.uniq e.1 h.1 k.1) (LtT.uniq e.2 h.2 k.2)) (fun x H h => .cons _ _ _ _ (LtT.frz h.1) (.cons _ _ _ _ (LtT.frz h.2) .nil))
 (fun x hf => by obtain ⟨r, hF, H, k, wr, rfl⟩ := zSe x.1.x x.2.x hf.1 hf.2; exact ⟨_, _, _, _, hF, .one _ _ (.plain _ rfl)⟩)
theorem same_iff (a b : SetX) : a.same b = true ↔ a.t = b.t ∧ a.c = b.c ∧ ((labels (bs a.n)).2 = 0 ∧ (labels (bs b.n)).2 = 0 ∧ lower (bs a.n) = lower (bs b.n)) ∧ a.d.length = b.d.length ∧ sortS a.d = sortS b.d := by
 unfold SetX.same zCa
 simp only [Bool.and_eq_true, beq_iff_eq, decide_eq_true_eq, and_assoc]
end Go.Proofs.Ytblhnenhonfpnaa
namespace Go.Proofs.Ytblhnenhonfpnaa
open Go Go.RowKit
end Go.Proofs.Ytblhnenhonfpnaa
namespace Go.Proofs.Ytblhnenhonfpnaa
open Go Go.RowKit
end Go.Proofs.Ytblhnenhonfpnaa
namespace Go.Proofs.Ytblhnenhonfpnaa
open Go Go.RowKit
abbrev leL (x y : (List UInt8)) : Bool := decide (x ≤ y)
theorem zMn (a b c : (List UInt8)) (h : leL a b = true) (k : leL b c = true) : leL a c = true := by
 simp only [leL, decide_eq_true_eq] at *; exact List.le_trans h k
theorem zMm (a b : (List UInt8)) : (leL a b || leL b a) = true := by
 simp only [leL, Bool.or_eq_true, decide_eq_true_eq]; exact List.le_total a b
theorem leL_anti (a b : (List UInt8)) (h : leL a b = true) (k : leL b a = true) : a = b := by
 simp only [leL, decide_eq_true_eq] at *; exact List.le_antisymm h k
theorem msort_iff (a b : List (List UInt8)) : a.mergeSort leL = b.mergeSort leL ↔ a.Perm b := by
 constructor
 ·intro h
  exact (List.mergeSort_perm a leL).symm.trans (h ▸ List.mergeSort_perm b leL)
 ·intro h
  exact List.Perm.eq_of_pairwise (le := fun a b => leL a b = true) (fun x y _ _ h1 h2 => leL_anti x y h1 h2) (List.pairwise_mergeSort zMn zMm a) (List.pairwise_mergeSort zMn zMm b) (((List.mergeSort_perm a leL).trans h).trans (List.mergeSort_perm b leL).symm)
def ssL (l : List ByteArray) : List (List UInt8) := l.map (·.data.toList)
theorem sortS_iff (a b : List ByteArray) : sortS a = sortS b ↔ (ssL a).Perm (ssL b) := by
 rw [← msort_iff]
 unfold sortS
 constructor
 ·intro h
  have := congrArg (List.map fun x : ByteArray => x.data.toList) h
  simp only [List.map_map, Function.comp_def, List.map_id'] at this
  exact this
 ·intro h; show List.map _ ((ssL a).mergeSort leL) = List.map _ ((ssL b).mergeSort leL); rw [h]
end Go.Proofs.Ytblhnenhonfpnaa
namespace Go.Proofs.Ytblhnenhonfpnaa
open Go Go.RowKit
end Go.Proofs.Ytblhnenhonfpnaa
namespace Go.Proofs.Ytblhnenhonfpnaa
open Go Go.RowKit
end Go.Proofs.Ytblhnenhonfpnaa
namespace Go.Proofs.Ytblhnenhonfpnaa
open Go Go.RowKit
end Go.Proofs.Ytblhnenhonfpnaa
