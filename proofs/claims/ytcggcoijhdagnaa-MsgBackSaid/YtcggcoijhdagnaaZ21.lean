/- DERIVED. Parts. -/
import Derived.Test.YtcggcoijhdagnaaZ12
import Derived.Test.YtcggcoijhdagnaaZ18
import Derived.Test.YtcggcoijhdagnaaZ20
set_option maxRecDepth 1000000
set_option maxHeartbeats 32000000
namespace Go.Proofs.Ytcggcoijhdagnaa
section
open Go Go.RowKit
theorem trB_inj {l l' : Bl} (h : trB l = trB l') : l = l' := zCf layBy h
theorem treeW_rel {f : FuncId} {l : Bl} {xs : List Value} {Q : Value -> Prop} (hn : l ≠ []) (hxs : plainL xs = true) (det : ∀ v v', Q v -> Q v' -> v = v')
  (hF : ∀ c, (c = U \/ l.length <= c /\ c <= 9223372036854775807) -> ∃ r, FnS Try.prog 0 f (.slice (some ⟨0, 0, none⟩) l.length c :: xs) (heap 1 [(0, .win (l.map byV) 1)]) 1 r /\ ∃ v H m wr, r = .ret v H m wr /\ (∀ k ∈ wr, 1 <= k) /\ plainV 8 v = true /\ Q v) (H : Tr AObj) (n : Nat) :
  ∃ v, CallOK Try.prog 0 f (trB l :: xs) H n (.ret v H n []) /\ Q v := by
 obtain ⟨_, _, v, _, _, _, _, _, hp, hq⟩ := hF U (.inl rfl)
 refine ⟨v, zJl hn hxs hp (fun c h1 h2 => ?_) H n, hq⟩
 obtain ⟨r, hF, v', H', m, wr, rfl, hw, _, hq'⟩ := hF c (.inr ⟨h1, h2⟩)
 rw [det v' v hq' hq] at hF
 exact ⟨H', m, wr, hF, hw⟩
noncomputable def cq_tree (f : FuncId) (Q : Bl -> Int -> Value -> Prop) (det : ∀ l i v v', Q l i v -> Q l i v' -> v = v')
  (hF : ∀ (l : Bl) (o n c : Nat) (i : Int), o + n <= l.length -> n <= 1000000 -> (c = U \/ n <= c /\ c <= 9223372036854775807) -> ∃ r, FnS Try.prog 0 f [.slice (some ⟨0, o, none⟩) n c, .int .i64 i] (heap 1 [(0, .win (l.map byV) 1)]) 1 r /\ ∃ v H m wr, r = .ret v H m wr /\ (∀ k ∈ wr, 1 <= k) /\ plainV 8 v = true /\ Q ((l.drop o).take n) i v) : CtQ Try.prog :=
 { f := f, X := Bl × Int, pre := fun x a _ _ => a = [trB x.1, .int .i64 x.2] /\ x.1 ≠ [] /\ x.1.length <= 1000000, Q := fun x v => Q x.1 x.2 v,
   ok := fun ⟨l, i⟩ a H n ⟨h1, h2, h3⟩ => by
    subst h1
    have h3 : l.length <= 1000000 := h3
    refine treeW_rel (Q := Q l i) h2 rfl (det l i) (fun c hc => ?_) H n
    have := hF l 0 l.length c i (by omega) h3 hc
    rw [List.drop_zero, List.take_length] at this
    exact this,
   uniq := fun ⟨x, i⟩ ⟨y, j⟩ a H m ⟨h1, _⟩ ⟨k1, _⟩ => by
    rw [h1] at k1
    simp only [aQ, Value.int.injEq, true_and, and_true] at k1
    rw [trB_inj k1.1, k1.2] }
def rcT (y : RcX × Int × Int × Int) : Value := .tuple #[.agg #[.string y.1.n, .int .i64 y.1.t, .int .i64 y.1.c, .int .i64 y.1.ttl, .string y.1.d], .int .i64 y.2.1, .agg #[.int .i64 y.2.2.1, .int .i64 y.2.2.2]]
def quT (y : QuX × Int × Int × Int) : Value := .tuple #[.agg #[.string y.1.n, .int .i64 y.1.t, .int .i64 y.1.c], .int .i64 y.2.1, .agg #[.int .i64 y.2.2.1, .int .i64 y.2.2.2]]
theorem rcT_form {B : Bl} {a : Int} {v : Value} (h : recQ B a v) : ∃ y, v = rcT y /\ recQ B a (rcT y) := by
 have : ∃ y, v = rcT y := by
  cases h with
  | name h he => exact ⟨(⟨⟨#[]⟩, 0, 0, 0, ⟨#[]⟩⟩, 0, _, _), rfl⟩
  | short h he hk hl => exact ⟨(⟨⟨#[]⟩, 0, 0, 0, ⟨#[]⟩⟩, 0, _, _), rfl⟩
  | data h he hk hl hy hf => exact ⟨(⟨⟨#[]⟩, 0, 0, 0, ⟨#[]⟩⟩, 0, _, _), rfl⟩
  | fine h he hk hl hy hf => exact ⟨(⟨_, _, _, _, _⟩, _, 0, 0), rfl⟩
 obtain ⟨y, rfl⟩ := this
 exact ⟨y, rfl, h⟩
theorem quT_form {B : Bl} {a : Int} {v : Value} (h : queQ B a v) : ∃ y, v = quT y /\ queQ B a (quT y) := by
 have : ∃ y, v = quT y := by
  cases h with
  | name h he => exact ⟨(⟨⟨#[]⟩, 0, 0⟩, 0, _, _), rfl⟩
  | short h he hk hl => exact ⟨(⟨⟨#[]⟩, 0, 0⟩, 0, _, _), rfl⟩
  | fine h he hk hl => exact ⟨(⟨_, _, _⟩, _, 0, 0), rfl⟩
 obtain ⟨y, rfl⟩ := this
 exact ⟨y, rfl, h⟩
noncomputable def zQe : Ct Try.prog 0 := (cq_tree 62 queQ (fun _ _ _ _ h k => h.det k) zTt).ctY (QuX × Int × Int × Int) quT (fun (x : Bl × Int) y => queQ x.1 x.2 (quT y)) (fun _ _ h => quT_form h)
noncomputable def zSt : Ct Try.prog 0 := (cq_tree 63 recQ (fun _ _ _ _ h k => h.det k) zXr).ctY (RcX × Int × Int × Int) rcT (fun (x : Bl × Int) y => recQ x.1 x.2 (rcT y)) (fun _ _ h => rcT_form h)
noncomputable def ct_getT (f : FuncId) (hF : ∀ (l : Bl) (c : Nat) (i : Int), l.length <= 1000000 -> (c = U \/ l.length <= c /\ c <= 9223372036854775807) -> ∃ r, FnS Try.prog 0 f [.slice (some ⟨0, 0, none⟩) l.length c, .int .i64 i] (heap 1 [(0, .win (l.map byV) 1)]) 1 r /\ ∃ H m wr, r = .ret (getOut l 0 l.length i 2) H m wr /\ ∀ k ∈ wr, 1 <= k) : Ct Try.prog 0 :=
 CtR.ct { f := f, X := Bl × Int, pre := fun x a _ _ => a = [trB x.1, .int .i64 x.2] /\ x.1 ≠ [] /\ x.1.length <= 1000000 /\ 0 <= x.2 /\ x.2.toNat + 2 <= x.1.length, out := fun x H n => .ret (.tuple #[.int .i64 (beN ((x.1.drop x.2.toNat).take 2) : Int), .int .i64 ((x.2.toNat + 2 : Nat) : Int), .agg #[.int .i64 0, .int .i64 0]]) H n [],
          ok := fun ⟨l, i⟩ a H n ⟨h1, h2, h3, h4, h5⟩ => by
           subst h1
           have h3 : l.length <= 1000000 := h3
           have h5 : i.toNat + 2 <= l.length := h5
           have h4 : 0 <= i := h4
           have e : getOut l 0 l.length i 2 = .tuple #[.int .i64 (beN ((l.drop i.toNat).take 2) : Int), .int .i64 ((i.toNat + 2 : Nat) : Int), .agg #[.int .i64 0, .int .i64 0]] := by
            unfold getOut
            rw [if_neg (by omega), if_pos h5, aS]
           show CallOK Try.prog 0 f _ H n _
           refine zJl h2 rfl rfl (fun c q1 q2 => ?_) H n
           obtain ⟨r, hF, H', m, wr, rfl, hw⟩ := hF l c i h3 (.inr ⟨q1, q2⟩)
           rw [e] at hF
           exact ⟨H', m, wr, hF, hw⟩,
          uniq := fun ⟨x, i⟩ ⟨y, j⟩ a H m ⟨h1, _⟩ ⟨k1, _⟩ => by
           rw [h1] at k1
           simp only [aQ, Value.int.injEq, true_and, and_true] at k1
           rw [show x = y from trB_inj k1.1, show i = j from k1.2] }
noncomputable def zQc : Ct Try.prog 0 := ct_getT 61 (fun l c i h _ => zVi l 0 l.length c i (by omega) (by omega))
end
section
open Go Go.RowKit
end
section
open Go Go.RowKit
inductive mrQ (B : Bl) (nq : Nat) : List MwI -> Int -> Prop
 | nil : mrQ B nq [] 12
 | q {l : List MwI} {a : Int} {x : QuX} {nx p : Int} (h : mrQ B nq l a) (hl : l.length < nq) (hq : queQ B a (quT (x, nx, 0, p))) : mrQ B nq (l ++ [.inl x]) nx
 | r {l : List MwI} {a : Int} {x : RcX} {nx p : Int} (h : mrQ B nq l a) (hl : nq <= l.length) (hr : recQ B a (rcT (x, nx, 0, p))) : mrQ B nq (l ++ [.inr x]) nx
theorem zDi {x y : RcX} {a b c d e f : Int} (h : rcT (x, a, b, c) = rcT (y, d, e, f)) : x = y /\ a = d /\ b = e /\ c = f := by
 obtain ⟨n, t, k, u, w⟩ := x
 obtain ⟨n', t', k', u', w'⟩ := y
 simp only [rcT, Value.tuple.injEq, Array.mk.injEq, aQ, Value.agg.injEq, Value.string.injEq, Value.int.injEq, true_and, and_true] at h
 obtain ⟨⟨rfl, rfl, rfl, rfl, rfl⟩, rfl, rfl, rfl⟩ := h
 exact ⟨rfl, rfl, rfl, rfl⟩
theorem zDy {x y : QuX} {a b c d e f : Int} (h : quT (x, a, b, c) = quT (y, d, e, f)) : x = y /\ a = d /\ b = e /\ c = f := by
 obtain ⟨n, t, k⟩ := x
 obtain ⟨n', t', k'⟩ := y
 simp only [quT, Value.tuple.injEq, Array.mk.injEq, aQ, Value.agg.injEq, Value.string.injEq, Value.int.injEq, true_and, and_true] at h
 obtain ⟨⟨rfl, rfl, rfl⟩, rfl, rfl, rfl⟩ := h
 exact ⟨rfl, rfl, rfl, rfl⟩
theorem mrQ.det {B : Bl} {nq : Nat} : ∀ (n : Nat) {l l' : List MwI} {a a' : Int}, l.length = n -> l'.length = n -> mrQ B nq l a -> mrQ B nq l' a' -> l = l' /\ a = a'
 | 0, l, l', a, a', h, h', k, k' => by
  have h := List.length_eq_zero_iff.1 h
  have h' := List.length_eq_zero_iff.1 h'
  cases k with
  | nil => cases k' with
   | nil => exact ⟨rfl, rfl⟩
   | q => simp at h'
   | r => simp at h'
  | q => simp at h
  | r => simp at h
 | n + 1, l, l', a, a', h, h', k, k' => by
  cases k with
  | nil => simp at h
  | q k hl hq =>
   rw [aB, List.length_singleton] at h
   cases k' with
   | nil => simp at h'
   | q k' hl' hq' =>
    rw [aB, List.length_singleton] at h'
    obtain ⟨rfl, rfl⟩ := mrQ.det n (by omega) (by omega) k k'
    obtain ⟨rfl, rfl, _, _⟩ := zDy (hq.det hq')
    exact ⟨rfl, rfl⟩
   | r k' hl' hr' =>
    rw [aB, List.length_singleton] at h'
    omega
  | r k hl hr =>
   rw [aB, List.length_singleton] at h
   cases k' with
   | nil => simp at h'
   | q k' hl' hq' =>
    rw [aB, List.length_singleton] at h'
    omega
   | r k' hl' hr' =>
    rw [aB, List.length_singleton] at h'
    obtain ⟨rfl, rfl⟩ := mrQ.det n (by omega) (by omega) k k'
    obtain ⟨rfl, rfl, _, _⟩ := zDi (hr.det hr')
    exact ⟨rfl, rfl⟩
def mrBad (B : Bl) (nq : Nat) (l : List MwI) (a e p : Int) : Prop := (l.length < nq /\ ∃ x nx, queQ B a (quT (x, nx, e, p))) \/ (nq <= l.length /\ ∃ x nx, recQ B a (rcT (x, nx, e, p)))
theorem mrQ.more {B : Bl} {nq : Nat} {l l' : List MwI} {a a' e p : Int} (h : mrQ B nq l a) (k : mrQ B nq l' a') (hl : l.length < l'.length) (hb : mrBad B nq l a e p) : e = 0 := by
 induction k with
 | nil => simp at hl
 | q k hk hq ih =>
  rw [aB, List.length_singleton] at hl
  by_cases hz : l.length < (List.length ‹List MwI›)
  ·exact ih hz
  obtain ⟨rfl, rfl⟩ := mrQ.det _ rfl (by omega) h k
  rcases hb with ⟨_, x, nx, hb⟩ | ⟨h1, _⟩
  ·exact (zDy (hb.det hq)).2.2.1
  omega
 | r k hk hr ih =>
  rw [aB, List.length_singleton] at hl
  by_cases hz : l.length < (List.length ‹List MwI›)
  ·exact ih hz
  obtain ⟨rfl, rfl⟩ := mrQ.det _ rfl (by omega) h k
  rcases hb with ⟨h1, _⟩ | ⟨_, x, nx, hb⟩
  ·omega
  exact (zDi (hb.det hr)).2.2.1
def zM : MsT := ⟨0, 0, [], [], [], []⟩
def totB (B : Bl) : Nat := numAt B 4 2 + (numAt B 6 2 + (numAt B 8 2 + numAt B 10 2))
structure MsFit (B : Bl) (m : MsT) : Prop where
 id : m.id = (numAt B 0 2 : Nat)
 fl : m.fl = (numAt B 2 2 : Nat)
 q : m.q.length = numAt B 4 2
 an : m.an.length = numAt B 6 2
 ns : m.ns.length = numAt B 8 2
 ar : m.ar.length = numAt B 10 2
inductive msQ (B : Bl) : MsT -> Int -> Int -> Prop
 | long (h : 65535 < B.length) : msQ B zM 3 0
 | short (h : B.length < 12) : msQ B zM 4 (B.length : Nat)
 | fault {l : List MwI} {a e p : Int} (h : 12 <= B.length /\ B.length <= 65535) (hl : mrQ B (numAt B 4 2) l a) (ht : l.length < totB B) (hb : mrBad B (numAt B 4 2) l a e p) (he : e ≠ 0) : msQ B zM e p
 | rest {l : List MwI} {a : Int} (h : 12 <= B.length /\ B.length <= 65535) (hl : mrQ B (numAt B 4 2) l a) (ht : l.length = totB B) (ha : a ≠ (B.length : Nat)) : msQ B zM 4 a
 | fine {m : MsT} (h : 12 <= B.length /\ B.length <= 65535) (hl : mrQ B (numAt B 4 2) m.items (B.length : Nat)) (hf : MsFit B m) : msQ B m 0 0
theorem zQt (m : MsT) : m.items.length = m.q.length + (m.an.length + (m.ns.length + m.ar.length)) := by unfold MsT.items; simp
theorem MsFit.tot {B : Bl} {m : MsT} (h : MsFit B m) : m.items.length = totB B := by rw [zQt, h.q, h.an, h.ns, h.ar]; rfl
theorem inl_inj {l l' : List QuX} (h : l.map (Sum.inl (β := RcX)) = l'.map .inl) : l = l' := by
 have := congrArg (List.filterMap (fun x : MwI => match x with | .inl q => some q | .inr _ => none)) h
 simpa [List.filterMap_map, Function.comp_def] using this
theorem zTf {l l' : List RcX} (h : l.map (Sum.inr (α := QuX)) = l'.map .inr) : l = l' := by
 have := congrArg (List.filterMap (fun x : MwI => match x with | .inr q => some q | .inl _ => none)) h
 simpa [List.filterMap_map, Function.comp_def] using this
theorem MsFit.uniq {B : Bl} {m m' : MsT} (h : MsFit B m) (k : MsFit B m') (e : m.items = m'.items) : m = m' := by
 obtain ⟨i, f, q, an, ns, ar⟩ := m
 obtain ⟨i', f', q', an', ns', ar'⟩ := m'
 obtain ⟨h1, h2, h3, h4, h5, h6⟩ := h
 obtain ⟨k1, k2, k3, k4, k5, k6⟩ := k
 simp only at h1 h2 h3 h4 h5 h6 k1 k2 k3 k4 k5 k6
 have e : q.map Sum.inl ++ (an.map Sum.inr ++ (ns.map Sum.inr ++ ar.map Sum.inr)) = q'.map Sum.inl ++ (an'.map Sum.inr ++ (ns'.map Sum.inr ++ ar'.map Sum.inr)) := e
 obtain ⟨e1, e⟩ := List.append_inj e (by simp; omega)
 obtain ⟨e2, e⟩ := List.append_inj e (by simp; omega)
 obtain ⟨e3, e4⟩ := List.append_inj e (by simp; omega)
 rw [h1, k1.symm, h2, k2.symm, inl_inj e1, zTf e2, zTf e3, zTf e4]
theorem msQ.det {B : Bl} {m m' : MsT} {e p e' p' : Int} (h : msQ B m e p) (k : msQ B m' e' p') : m = m' /\ e = e' /\ p = p' := by
 cases h with
 | long h => cases k with
  | long => exact ⟨rfl, rfl, rfl⟩
  | short k => omega
  | fault k => omega
  | rest k => omega
  | fine k => omega
 | short h => cases k with
  | long k => omega
  | short k => exact ⟨rfl, rfl, rfl⟩
  | fault k => omega
  | rest k => omega
  | fine k => omega
 | fault h hl ht hb he => cases k with
  | long k => omega
  | short k => omega
  | fault k kl kt kb ke =>
   rename_i l a l' a'
   have hlen : l.length = l'.length := by
    rcases Nat.lt_trichotomy l.length l'.length with q | q | q
    ·exact ab (hl.more kl q hb) he
    ·exact q
    exact ab (kl.more hl q kb) ke
   obtain ⟨rfl, rfl⟩ := mrQ.det _ hlen rfl hl kl
   rcases hb with ⟨h1, x, nx, hb⟩ | ⟨h1, x, nx, hb⟩ <;> rcases kb with ⟨k1, y, ny, kb⟩ | ⟨k1, y, ny, kb⟩
   ·obtain ⟨_, _, rfl, rfl⟩ := zDy (hb.det kb); exact ⟨rfl, rfl, rfl⟩
   ·omega
   ·omega
   obtain ⟨_, _, rfl, rfl⟩ := zDi (hb.det kb); exact ⟨rfl, rfl, rfl⟩
  | rest k kl kt ka => exact ab (hl.more kl (by omega) hb) he
  | fine k kl kf => exact ab (hl.more kl (by rw [kf.tot]; exact ht) hb) he
 | rest h hl ht ha => cases k with
  | long k => omega
  | short k => omega
  | fault k kl kt kb ke => exact ab (kl.more hl (by omega) kb) ke
  | rest k kl kt ka => obtain ⟨_, rfl⟩ := mrQ.det _ ht kt hl kl; exact ⟨rfl, rfl, rfl⟩
  | fine k kl kf => obtain ⟨_, rfl⟩ := mrQ.det _ ht kf.tot hl kl; exact ab rfl ha
 | fine h hl hf => cases k with
  | long k => omega
  | short k => omega
  | fault k kl kt kb ke => exact ab (kl.more hl (by rw [hf.tot]; exact kt) kb) ke
  | rest k kl kt ka => obtain ⟨_, rfl⟩ := mrQ.det _ hf.tot kt hl kl; exact ab rfl ka
  | fine k kl kf => obtain ⟨e, _⟩ := mrQ.det _ hf.tot kf.tot hl kl; exact ⟨hf.uniq kf e, rfl, rfl⟩
end
section
open Go Go.RowKit
theorem askq_back {en a : Nat} {T : List (Bl × Nat)} {x : QuX} (z1 : (labels (bs x.n)).2 = 0) (z2 : numB x.t 65535 = true) (z3 : numB x.c 65535 = true) (hen : en <= a) (ha : a <= 65535) {e : Int} {W : Bl} {F : List (Bl × Nat)} {en' : Nat} (hD : askD en T (a : Int) x.n x.t x.c = (e, W, F, en')) : e = 0 /\ W ≠ [] /\ W.length <= 300 /\ en' <= a + W.length /\
  (∀ B : Bl, a + W.length <= B.length -> (B.drop a).take W.length = W -> knowsN B T a -> queQ B (a : Int) (quT (x, ((a + W.length : Nat) : Int), 0, 0)) /\ knowsN B (T ++ F) (a + W.length)) := by
 obtain ⟨t, ht, ht2⟩ := zCy z2
 obtain ⟨c, hc, hc2⟩ := zCy z3
 obtain ⟨hp, o, G, hr, ho1, ho2, hn, hB⟩ := zQz (en := en) (T := T) z1 hen ha
 unfold askD at hD
 rw [if_neg (aL z1), z2, z3, show (true && true) = true from rfl, if_pos rfl, if_neg (aL hp), aO, hr] at hD
 simp only [Prod.mk.injEq, ht, hc, aO] at hD
 obtain ⟨rfl, rfl, rfl, rfl⟩ := hD
 have hl : (o ++ by2 t ++ by2 c).length = o.length + 4 := by simp [by2]
 refine ⟨rfl, by simp [by2], by rw [hl]; omega, by rw [hl]; omega, fun B hBl hb hK => ?_⟩
 obtain ⟨r1, r2⟩ := hB B (by rw [hl] at hBl; omega) (zVz (X := by2 t ++ by2 c) (by rw [<- aN]; exact hb)) hK
 refine ⟨?_, r2.mono (by rw [hl]; omega)⟩
 have n1 : numAt B (a + o.length) 2 = t := by
  rw [show numAt B (a + o.length) 2 = beN (by2 t) from zHd hb (o := o) (X := by2 t) (Y := by2 c) rfl rfl rfl]
  exact zIn (by omega)
 have n2 : numAt B (a + o.length + 2) 2 = c := by
  rw [show numAt B (a + o.length + 2) 2 = beN (by2 c) from zHd hb (o := o ++ by2 t) (X := by2 c) (Y := []) (by simp) (by simp [by2]; omega) rfl]
  exact zIn (by omega)
 have := queQ.fine (k := a + o.length) r1 rfl rfl (by rw [hl] at hBl; omega)
 rw [n1, n2] at this
 unfold quT
 rw [ht, hc, hl]
 unfold zTs at this
 rw [zNl] at this
 exact this
theorem zTl : ∀ (l : List MwI) {s s' : MwS}, mwF s l = some s' -> ∃ X, s'.out = s.out ++ X
 | [], s, s', h => by cases h; exact ⟨[], (aF _).symm⟩
 | x :: l, s, s', h => by
  unfold mwF at h
  split at h
  ·cases h
  obtain ⟨X, e⟩ := zTl l h
  exact ⟨(mwD s x).2.1 ++ X, by rw [e]; show (s.out ++ (mwD s x).2.1) ++ X = _; rw [aN]⟩
theorem mwF_len : ∀ (l : List MwI) {s s' : MwS}, mwF s l = some s' -> s.out.length <= 65535 -> s'.out.length <= 65535
 | [], s, s', h, hs => by cases h; exact hs
 | x :: l, s, s', h, hs => by
  unfold mwF at h
  split at h
  ·cases h
  rename_i hn
  exact mwF_len l h (by have := fun e => hn (.inr e); omega)
def okI (nq : Nat) (k : Nat) : MwI -> Prop
 | .inl q => quC q = 0 /\ k < nq
 | .inr x => recC x = 0 /\ nq <= k
theorem mw_back {B : Bl} {nq : Nat} (hBl : B.length < 9223372036854775807) : ∀ (l done : List MwI) {s s' : MwS}, mwF s l = some s' -> (∃ C, B = s'.out ++ C) -> (∀ i (h : i < l.length), okI nq (done.length + i) l[i]) -> s.out.length <= 65535 -> s.en <= s.out.length -> mrQ B nq done (s.out.length : Int) -> knowsN B s.T s.out.length -> mrQ B nq (done ++ l) (s'.out.length : Int)
 | [], done, s, s', h, hB, _, _, _, hm, _ => by cases h; rw [aF]; exact hm
 | x :: l, done, s, s', h, hB, hok, hs, hen, hm, hK => by
  unfold mwF at h
  split at h
  ·cases h
  rename_i hn
  obtain ⟨R, hR⟩ : ∃ R, mwD s x = R := ⟨_, rfl⟩
  rw [hR] at h hn
  have hr0 : R.1 = 0 := Classical.byContradiction fun e => hn (.inl e)
  have hlen : (mwN s R).out.length <= 65535 := by have := fun e => hn (.inr e); omega
  obtain ⟨X, hX⟩ := zTl l h
  obtain ⟨e, W, F, en'⟩ := R
  have hr0 : e = 0 := hr0
  subst hr0
  obtain ⟨C, hC⟩ := hB
  have hX : B = s.out ++ W ++ (X ++ C) := by rw [hC, hX, <- aN]; rfl
  have hle : s.out.length + W.length <= B.length := by rw [hX]; simp
  have htk : (B.drop s.out.length).take W.length = W := by rw [hX, aN, List.drop_left, List.take_left]
  have hsl : (mwN s (0, W, F, en')).out.length = s.out.length + W.length := by show (s.out ++ W).length = _; rw [aB]
  have hk0 := hok 0 (Nat.zero_lt_succ _)
  have hok' : ∀ i (h : i < l.length), okI nq ((done ++ [x]).length + i) l[i] := fun i h => by
   have := hok (i + 1) (Nat.succ_lt_succ h)
   rw [aB, List.length_singleton, Nat.add_assoc, Nat.add_comm 1 i]; exact this
  have fin : mrQ B nq (done ++ [x]) ((s.out.length + W.length : Nat) : Int) -> knowsN B (s.T ++ F) (s.out.length + W.length) -> en' <= s.out.length + W.length -> mrQ B nq (done ++ x :: l) (s'.out.length : Int) := fun h1 h2 h3 => by
   have := mw_back hBl l (done ++ [x]) h ⟨C, hC⟩ hok' hlen (by rw [hsl]; exact h3) (by rw [hsl]; exact h1) (by rw [hsl]; exact h2)
   rw [aN] at this; exact this
  cases x with
  | inl q =>
   have hk0 : quC q = 0 /\ done.length + 0 < nq := hk0
   obtain ⟨hq, hlt⟩ := hk0
   unfold quC at hq
   split at hq
   ·rename_i hz; exact ab hq hz
   rename_i hz
   split at hq
   ·rename_i hz2
    rw [bA] at hz2
    obtain ⟨_, _, _, a4, a5⟩ := askq_back (x := q) (Decidable.not_not.1 hz) hz2.1 hz2.2 hen hs hR
    obtain ⟨b1, b2⟩ := a5 B hle htk hK
    exact fin (.q hm (by omega) b1) b2 a4
   cases hq
  | inr x =>
   have hk0 : recC x = 0 /\ nq <= done.length + 0 := hk0
   obtain ⟨_, _, a4, a5⟩ := rec_back0 hk0.1 hen hs hR
   obtain ⟨b1, _, b2⟩ := a5 B hle hBl htk hK
   exact fin (.r hm (by omega) b1) b2 a4
theorem zEb {α : Type} (f : α -> Int) : ∀ {l : List α}, firstE f l = 0 -> ∀ x ∈ l, f x = 0
 | x :: l, h, y, hy => by
  unfold firstE at h
  by_cases hx : f x = 0
  ·rw [if_neg (aL hx)] at h
   rcases aK.1 hy with rfl | hy
   ·exact hx
   exact zEb f h y hy
  rw [if_pos hx] at h; exact ab h hx
theorem zUv {m : MsT} (h : m.chk = 0) : (∀ x ∈ m.q, quC x = 0) /\ (∀ x ∈ m.an, recC x = 0) /\ (∀ x ∈ m.ns, recC x = 0) /\ (∀ x ∈ m.ar, recC x = 0) := by
 unfold MsT.chk msC at h
 split at h
 ·cases h
 split at h
 ·cases h
 split at h
 ·rename_i e; exact ab h e
 rename_i e1
 split at h
 ·rename_i e; exact ab h e
 rename_i e2
 split at h
 ·rename_i e; exact ab h e
 rename_i e3
 exact ⟨zEb _ (Decidable.not_not.1 e1), zEb _ (Decidable.not_not.1 e2), zEb _ (Decidable.not_not.1 e3), zEb _ h⟩
theorem zQw {m : MsT} {s : MwS} (h0 : m.chk = 0) (h : mwF ⟨m.head, [], 0⟩ m.items = some s) (C : Bl) (hC : C.length <= 1000000) : (12 <= s.out.length /\ s.out.length <= 65535) /\ mrQ (s.out ++ C) (numAt (s.out ++ C) 4 2) m.items (s.out.length : Int) /\ MsFit (s.out ++ C) m := by
 obtain ⟨c1, c2, c3, c4, c5, c6⟩ := zVr h0
 obtain ⟨q1, q2, q3, q4⟩ := zUv h0
 have hl : s.out.length <= 65535 := mwF_len _ h (by show 12 <= 65535; decide)
 obtain ⟨X, hX⟩ := zTl _ h
 have hX : s.out = m.head ++ X := hX
 have h12 : 12 <= s.out.length := by rw [hX, aB]; have : m.head.length = 12 := rfl; omega
 have num : ∀ (o : Bl) (v : Nat) (Y : Bl), m.head = o ++ by2 v ++ Y -> v < 65536 -> numAt (s.out ++ C) o.length 2 = v := fun o v Y e hv => by
  have hb : ((s.out ++ C).drop 0).take m.head.length = m.head := by rw [List.drop_zero, hX, aN, List.take_left]
  rw [show numAt (s.out ++ C) o.length 2 = beN (by2 v) from zHd hb (o := o) (X := by2 v) (Y := Y) e (aS _).symm rfl]
  exact zIn hv
 have n0 := num [] m.id.toNat (by2 m.fl.toNat ++ by2 m.q.length ++ by2 m.an.length ++ by2 m.ns.length ++ by2 m.ar.length) rfl (by omega)
 have n1 := num (by2 m.id.toNat) m.fl.toNat (by2 m.q.length ++ by2 m.an.length ++ by2 m.ns.length ++ by2 m.ar.length) rfl (by omega)
 have n2 := num (by2 m.id.toNat ++ by2 m.fl.toNat) m.q.length (by2 m.an.length ++ by2 m.ns.length ++ by2 m.ar.length) rfl (by omega)
 have n3 := num (by2 m.id.toNat ++ by2 m.fl.toNat ++ by2 m.q.length) m.an.length (by2 m.ns.length ++ by2 m.ar.length) rfl (by omega)
 have n4 := num (by2 m.id.toNat ++ by2 m.fl.toNat ++ by2 m.q.length ++ by2 m.an.length) m.ns.length (by2 m.ar.length) rfl (by omega)
 have n5 := num (by2 m.id.toNat ++ by2 m.fl.toNat ++ by2 m.q.length ++ by2 m.an.length ++ by2 m.ns.length) m.ar.length [] rfl (by omega)
 have n0 : numAt (s.out ++ C) 0 2 = m.id.toNat := n0
 have n1 : numAt (s.out ++ C) 2 2 = m.fl.toNat := n1
 have n2 : numAt (s.out ++ C) 4 2 = m.q.length := n2
 have n3 : numAt (s.out ++ C) 6 2 = m.an.length := n3
 have n4 : numAt (s.out ++ C) 8 2 = m.ns.length := n4
 have n5 : numAt (s.out ++ C) 10 2 = m.ar.length := n5
 refine ⟨⟨h12, hl⟩, ?_, ⟨by rw [n0]; omega, by rw [n1]; omega, n2.symm, n3.symm, n4.symm, n5.symm⟩⟩
 have := mw_back (B := s.out ++ C) (nq := numAt (s.out ++ C) 4 2) (by rw [aB]; omega) m.items [] h ⟨C, rfl⟩ (fun i hi => ?_) (by show 12 <= 65535; decide) (aH _) .nil (fun t k hm => by cases hm)
 ·rw [List.nil_append] at this; exact this
 rw [n2, List.length_nil, aS]
 by_cases hq : i < m.q.length
 ·rw [items_q hq hi]; exact ⟨q1 _ (aV hq), hq⟩
 have hx : ∃ x, m.items[i] = .inr x /\ recC x = 0 := by
  have hm : m.items[i] ∈ m.an.map Sum.inr ++ (m.ns.map Sum.inr ++ m.ar.map Sum.inr) := by
   have e : m.items[i]? = (m.an.map (Sum.inr (α := QuX)) ++ (m.ns.map Sum.inr ++ m.ar.map Sum.inr))[i - m.q.length]? := by
    unfold MsT.items
    rw [List.getElem?_append_right (by simpa using hq), aT]
   rw [gG hi] at e
   exact List.mem_of_getElem? e.symm
  rcases List.mem_append.1 hm with hm | hm
  ·obtain ⟨x, hx, e⟩ := List.mem_map.1 hm; exact ⟨x, e.symm, q2 x hx⟩
  rcases List.mem_append.1 hm with hm | hm
  ·obtain ⟨x, hx, e⟩ := List.mem_map.1 hm; exact ⟨x, e.symm, q3 x hx⟩
  obtain ⟨x, hx, e⟩ := List.mem_map.1 hm; exact ⟨x, e.symm, q4 x hx⟩
 obtain ⟨x, e, hx⟩ := hx
 rw [e]; exact ⟨hx, by omega⟩
theorem zDv {m : MsT} {s : MwS} (h0 : m.chk = 0) (h : mwF ⟨m.head, [], 0⟩ m.items = some s) : msQ s.out m 0 0 := by
 obtain ⟨h1, h2, h3⟩ := zQw h0 h [] (aH _)
 rw [aF] at h2 h3
 exact .fine h1 h2 h3
theorem msg_more {m : MsT} {s : MwS} (h0 : m.chk = 0) (h : mwF ⟨m.head, [], 0⟩ m.items = some s) (c : UInt8) (hl : s.out.length < 65535) : msQ (s.out ++ [c]) zM 4 (s.out.length : Nat) := by
 obtain ⟨h1, h2, h3⟩ := zQw h0 h [c] (by show 1 <= 1000000; decide)
 exact .rest (by rw [aB, List.length_singleton]; omega) h2 h3.tot (by rw [aB, List.length_singleton]; omega)
end
section
open Go Go.RowKit
theorem zQh {B C : Bl} {i k : Nat} (h : i + k <= B.length) : ((B ++ C).drop i).take k = (B.drop i).take k := by
 rw [List.drop_append_of_le_length (by omega), List.take_append_of_le_length (by rw [aM]; omega)]
theorem zCs {B C : Bl} {k z : Nat} (h : k + z <= B.length) : numAt (B ++ C) k z = numAt B k z := by unfold numAt; rw [zQh h]
theorem toB_app {B C : Bl} {i : Nat} (h : i + 2 <= B.length) : toB (B ++ C) i = toB B i := by unfold toB; rw [zHo (by omega), zHo (by omega)]
theorem Rd.app {B : Bl} (C : Bl) {a p i : Nat} {out : Bl} {bh : Int} {r : RR} (h : Rd B a p i out bh r) : r.e = 0 -> Rd (B ++ C) a p i out bh r := by
 have hl : (B ++ C).length = B.length + C.length := aB
 induction h with
 | over h => intro he; exact ab (show (4 : Int) = 0 from he) (by decide)
 | zero h hc => intro _; exact .zero (by omega) (by rw [zHo h]; exact hc)
 | pshort h hc h2 => intro he; exact ab (show (4 : Int) = 0 from he) (by decide)
 | ploop h hc h2 h3 => intro he; exact ab (show (150 : Int) = 0 from he) (by decide)
 | ptr h hc h2 h3 hr ih => intro he; exact .ptr (by omega) (by rw [zHo h]; exact hc) (by omega) (by rw [toB_app h2]; exact h3) (by rw [toB_app h2]; exact ih he)
 | bad h hc hc2 => intro he; exact ab (show (4 : Int) = 0 from he) (by decide)
 | short h hc hc2 h2 => intro he; exact ab (show (4 : Int) = 0 from he) (by decide)
 | long h hc hc2 h2 h3 => intro he; exact ab (show (3 : Int) = 0 from he) (by decide)
 | lab h hc hc2 h2 h3 hr ih => intro he; exact .lab (by omega) (by rw [zHo h]; exact hc) (by rw [zHo h]; exact hc2) (by rw [zHo h]; omega) (by rw [zHo h]; exact h3) (by rw [zHo h, zQh h2]; exact ih he)
theorem rdOk.app {B : Bl} (C : Bl) {x : Int} {r : RR} (h : rdOk B x r) (he : r.e = 0) : rdOk (B ++ C) x r := by
 rcases h with ⟨_, rfl⟩ | ⟨a, e, h1, h2⟩
 ·exact ab (show (5 : Int) = 0 from he) (by decide)
 exact .inr ⟨a, e, by rw [aB]; omega, h2.app C he⟩
theorem RdP.app {B : Bl} (C : Bl) {a e t : Int} (hle : e.toNat <= B.length) {ps : List Pt} {i : Int} {out : Bs} {y : Bs × Int × Int} (h : RdP B a e t ps i out y) : y.2.1 = 0 -> RdP (B ++ C) a e t ps i out y := by
 induction h with
 | fin h1 h2 => intro _; exact .fin h1 h2
 | off h => intro he; exact ab (show (4 : Int) = 0 from he) (by decide)
 | nmb h hn => intro he; exact ab he hn
 | nmo h he0 h2 => intro he; exact ab (show (4 : Int) = 0 from he) (by decide)
 | nmc h he0 h2 k ih => intro he; exact .nmc (h.app C he0) he0 h2 (ih he)
 | @rest ps i out y k ih =>
  intro he
  refine .rest ?_
  rcases Nat.le_total i.toNat e.toNat with q | q
  ·rw [zQh (by omega)]; exact ih he
  rw [show e.toNat - i.toNat = 0 by omega, List.take_zero]
  have := ih he
  rw [show e.toNat - i.toNat = 0 by omega, List.take_zero] at this; exact this
 | szb h => intro he; exact ab (show (4 : Int) = 0 from he) (by decide)
 | szc h k ih =>
  intro he
  exact .szc h (by rw [zQh (by omega)]; exact ih he)
theorem rdQ.app {B : Bl} (C : Bl) {a z t : Int} {l : Bs} (h : rdQ B a z t (l, 0, 0)) : rdQ (B ++ C) a z t (l, 0, 0) := by
 unfold rdQ at h ⊢
 have hl : ((B ++ C).length : Int) = (B.length : Int) + (C.length : Int) := by rw [aB]; omega
 split at h
 ·simp at h
 rename_i c1
 rw [if_neg c1]
 split at h
 ·simp at h
 rename_i c2
 rw [if_neg (by omega)]
 split at h
 ·simp at h
 rename_i c3
 rw [if_neg (by omega)]
 cases hp : ptsT t with
 | none =>
  rw [hp] at h
  simp only at h ⊢
  rw [zQh (by omega)]; exact h
 | some ps =>
  rw [hp] at h
  simp only at h ⊢
  exact h.app C (by omega) rfl
theorem queQ.app {B : Bl} (C : Bl) {a : Int} {x : QuX} {nx p : Int} (h : queQ B a (quT (x, nx, 0, p))) : queQ (B ++ C) a (quT (x, nx, 0, p)) := by
 generalize hv : quT (x, nx, 0, p) = v at h ⊢
 have hl : (B ++ C).length = B.length + C.length := aB
 cases h with
 | name h he => simp only [quT, queBad, Value.tuple.injEq, Array.mk.injEq, aQ, Value.agg.injEq, Value.int.injEq, true_and, and_true] at hv; exact ab hv.2.2.1.symm he
 | short h he hk hl2 => simp [quT, queBad] at hv
 | fine h he hk hl2 =>
  have := queQ.fine (h.app C he) he hk (by omega)
  rw [zCs (by omega), zCs (by omega)] at this
  exact this
theorem recQ.app {B : Bl} (C : Bl) {a : Int} {x : RcX} {nx p : Int} (h : recQ B a (rcT (x, nx, 0, p))) : recQ (B ++ C) a (rcT (x, nx, 0, p)) := by
 generalize hv : rcT (x, nx, 0, p) = v at h ⊢
 have hl : (B ++ C).length = B.length + C.length := aB
 cases h with
 | name h he => simp only [rcT, recBad, Value.tuple.injEq, Array.mk.injEq, aQ, Value.agg.injEq, Value.int.injEq, true_and, and_true] at hv; exact ab hv.2.2.1.symm he
 | short h he hk hl2 => simp [rcT, recBad] at hv
 | data h he hk hl2 hy hf => simp only [rcT, recBad, Value.tuple.injEq, Array.mk.injEq, aQ, Value.agg.injEq, Value.int.injEq, true_and, and_true] at hv; exact ab hv.2.2.1.symm hf
 | @fine r k y h he hk hl2 hy hf =>
  obtain ⟨y1, y2, y3⟩ := y
  have hf : y2 = 0 := hf
  subst hf
  have hy3 : y3 = 0 := (hy.fine.2 rfl).1
  subst hy3
  have := recQ.fine (B := B ++ C) (h.app C he) he hk (by omega) (y := (y1, 0, 0)) (by rw [zCs (by omega), zCs (by omega)]; exact hy.app C) rfl
  rw [zCs (by omega), zCs (by omega), zCs (by omega), zCs (by omega)] at this
  exact this
theorem mrQ.app {B : Bl} (C : Bl) {nq : Nat} {l : List MwI} {a : Int} (h : mrQ B nq l a) : mrQ (B ++ C) nq l a := by
 induction h with
 | nil => exact .nil
 | q h hl hq ih => exact .q ih hl (hq.app C)
 | r h hl hr ih => exact .r ih hl (hr.app C)
theorem msg_cut {B : Bl} {m : MsT} (h : msQ B m 0 0) {k : Nat} (hk : k < B.length) {m' : MsT} {e p : Int} (g : msQ (B.take k) m' e p) : e ≠ 0 := by
 intro he
 subst he
 have hB : B = B.take k ++ B.drop k := (List.take_append_drop k B).symm
 have hlk : (B.take k).length = k := by rw [aU]; omega
 cases g with
 | fault _ _ _ _ he => exact he rfl
 | fine g1 g2 g3 =>
  have n : ∀ j, j + 2 <= 12 -> numAt B j 2 = numAt (B.take k) j 2 := fun j hj => by
   have := zCs (B := B.take k) (C := B.drop k) (k := j) (z := 2) (by omega)
   rw [<- hB] at this; exact this
  have g3' : MsFit B m' := ⟨by rw [n 0 (by decide)]; exact g3.id, by rw [n 2 (by decide)]; exact g3.fl, by rw [n 4 (by decide)]; exact g3.q, by rw [n 6 (by decide)]; exact g3.an, by rw [n 8 (by decide)]; exact g3.ns, by rw [n 10 (by decide)]; exact g3.ar⟩
  have g2' := g2.app (B.drop k)
  rw [<- hB, <- n 4 (by decide)] at g2'
  cases h with
  | fault _ _ _ _ he => exact he rfl
  | fine h1 h2 h3 =>
   obtain ⟨_, e⟩ := mrQ.det _ g3'.tot h3.tot g2' h2
   have e : ((B.take k).length : Int) = (B.length : Int) := e
   omega
end
section
open Go Go.RowKit
theorem num2_lt (B : Bl) (k : Nat) : numAt B k 2 < 65536 := by
 unfold numAt
 have := beN_lt ((B.drop k).take 2)
 have h : ((B.drop k).take 2).length <= 2 := by rw [aU]; omega
 exact bB this (Nat.pow_le_pow_right (by decide) h)
theorem zRa (B : Bl) (k : Nat) : numB (numAt B k 2 : Int) 65535 = true := by
 have := num2_lt B k
 unfold numB; rw [decide_eq_true_iff]; omega
theorem queQ.may {B : Bl} {a : Int} {x : QuX} {nx p : Int} (h : queQ B a (quT (x, nx, 0, p))) : quC x = 0 := by
 generalize hv : quT (x, nx, 0, p) = v at h
 cases h with
 | name h he => simp only [quT, queBad, Value.tuple.injEq, Array.mk.injEq, aQ, Value.agg.injEq, Value.int.injEq, true_and, and_true] at hv; exact ab hv.2.2.1.symm he
 | short h he hk hl2 => simp [quT, queBad] at hv
 | @fine r k h he hk hl2 =>
  have hv : quT (x, nx, 0, p) = quT (⟨mkS r.s, numAt B k 2, numAt B (k + 2) 2⟩, ((k + 4 : Nat) : Int), 0, 0) := hv
  obtain ⟨rfl, _⟩ := zDy hv
  unfold quC
  rw [bs_mkS, if_neg (aL (h.nm he)), zRa, zRa]; rfl
theorem recQ.may {B : Bl} {a : Int} {x : RcX} {nx p : Int} (h : recQ B a (rcT (x, nx, 0, p))) : recC x = 0 := by
 generalize hv : rcT (x, nx, 0, p) = v at h
 cases h with
 | name h he => simp only [rcT, recBad, Value.tuple.injEq, Array.mk.injEq, aQ, Value.agg.injEq, Value.int.injEq, true_and, and_true] at hv; exact ab hv.2.2.1.symm he
 | short h he hk hl2 => simp [rcT, recBad] at hv
 | data h he hk hl2 hy hf => simp only [rcT, recBad, Value.tuple.injEq, Array.mk.injEq, aQ, Value.agg.injEq, Value.int.injEq, true_and, and_true] at hv; exact ab hv.2.2.1.symm hf
 | @fine r k y h he hk hl2 hy hf =>
  have hv : rcT (x, nx, 0, p) = rcT (⟨mkS r.s, numAt B k 2, numAt B (k + 2) 2, (if numAt B (k + 4) 4 > 2147483647 then 0 else (numAt B (k + 4) 4 : Int)), mkS y.1⟩, ((k + 10 : Nat) : Int) + (numAt B (k + 8) 2 : Int), 0, 0) := hv
  obtain ⟨rfl, _⟩ := zDi hv
  obtain ⟨_, hck, _⟩ := hy.fine.2 hf
  unfold recC
  have b3 : numB (if numAt B (k + 4) 4 > 2147483647 then 0 else (numAt B (k + 4) 4 : Int)) 2147483647 = true := by unfold numB; rw [decide_eq_true_iff]; split <;> omega
  simp only [bs_mkS]
  rw [if_neg (aL (h.nm he)), zRa, zRa, b3]
  simpa using hck
theorem mrQ.may {B : Bl} {nq : Nat} {l : List MwI} {a : Int} (h : mrQ B nq l a) : ∀ y ∈ l, match y with | .inl u => quC u = 0 | .inr x => recC x = 0 := by
 induction h with
 | nil => intro y hy; cases hy
 | q h hl hq ih =>
  intro y hy
  rcases List.mem_append.1 hy with hy | hy
  ·exact ih y hy
  rw [List.mem_singleton.1 hy]; exact hq.may
 | r h hl hr ih =>
  intro y hy
  rcases List.mem_append.1 hy with hy | hy
  ·exact ih y hy
  rw [List.mem_singleton.1 hy]; exact hr.may
theorem zDn {α : Type} (f : α -> Int) : ∀ {l : List α}, (∀ x ∈ l, f x = 0) -> firstE f l = 0
 | [], _ => rfl
 | x :: l, h => by
  unfold firstE
  rw [if_neg (aL (h x (List.mem_cons_self ..)))]
  exact zDn f fun y hy => h y (List.mem_cons_of_mem _ hy)
theorem msg_may {B : Bl} {m : MsT} (h : msQ B m 0 0) : m.chk = 0 := by
 cases h with
 | fault _ _ _ _ he => exact ab rfl he
 | fine h1 h2 h3 =>
  have hy := h2.may
  have hq : ∀ x ∈ m.q, quC x = 0 := fun x hx => hy (.inl x) (by unfold MsT.items; exact List.mem_append_left _ (List.mem_map.2 ⟨x, hx, rfl⟩))
  have ha : ∀ x ∈ m.an, recC x = 0 := fun x hx => hy (.inr x) (by unfold MsT.items; exact List.mem_append_right _ (List.mem_append_left _ (List.mem_map.2 ⟨x, hx, rfl⟩)))
  have hn : ∀ x ∈ m.ns, recC x = 0 := fun x hx => hy (.inr x) (by unfold MsT.items; exact List.mem_append_right _ (List.mem_append_right _ (List.mem_append_left _ (List.mem_map.2 ⟨x, hx, rfl⟩))))
  have hr : ∀ x ∈ m.ar, recC x = 0 := fun x hx => hy (.inr x) (by unfold MsT.items; exact List.mem_append_right _ (List.mem_append_right _ (List.mem_append_right _ (List.mem_map.2 ⟨x, hx, rfl⟩))))
  unfold MsT.chk msC
  rw [h3.id, h3.fl, h3.q, h3.an, h3.ns, h3.ar]
  simp only [zRa, Bool.and_true, Bool.true_eq_false, if_false]
  rw [zDn _ hq, zDn _ ha, zDn _ hn, zDn _ hr]; rfl
end
section
open Go Go.RowKit
theorem queQ.place {B : Bl} {a : Int} {x : QuX} {nx e p : Int} (h : queQ B a (quT (x, nx, e, p))) : (e = 0 -> 0 <= nx /\ nx <= B.length) /\ (e ≠ 0 -> 0 <= p /\ p <= B.length) := by
 generalize hv : quT (x, nx, e, p) = v at h
 cases h with
 | @name r h he =>
  have hv : quT (x, nx, e, p) = quT (⟨⟨#[]⟩, 0, 0⟩, 0, r.e, r.pos) := hv
  obtain ⟨_, _, rfl, rfl⟩ := zDy hv
  exact ⟨fun h0 => ab h0 he, fun _ => h.fine.1 he⟩
 | short h he hk hl2 =>
  have hv : quT (x, nx, e, p) = quT (⟨⟨#[]⟩, 0, 0⟩, 0, 4, (B.length : Int)) := hv
  obtain ⟨_, _, rfl, rfl⟩ := zDy hv
  exact ⟨fun h0 => ab h0 (by decide), fun _ => ⟨by omega, by omega⟩⟩
 | @fine r k h he hk hl2 =>
  have hv : quT (x, nx, e, p) = quT (⟨mkS r.s, numAt B k 2, numAt B (k + 2) 2⟩, ((k + 4 : Nat) : Int), 0, 0) := hv
  obtain ⟨_, rfl, rfl, _⟩ := zDy hv
  exact ⟨fun _ => ⟨by omega, by omega⟩, fun h0 => ab rfl h0⟩
theorem recQ.place {B : Bl} {a : Int} {x : RcX} {nx e p : Int} (h : recQ B a (rcT (x, nx, e, p))) : (e = 0 -> 0 <= nx /\ nx <= B.length) /\ (e ≠ 0 -> 0 <= p /\ p <= B.length) := by
 generalize hv : rcT (x, nx, e, p) = v at h
 cases h with
 | @name r h he =>
  have hv : rcT (x, nx, e, p) = rcT (⟨⟨#[]⟩, 0, 0, 0, ⟨#[]⟩⟩, 0, r.e, r.pos) := hv
  obtain ⟨_, _, rfl, rfl⟩ := zDi hv
  exact ⟨fun h0 => ab h0 he, fun _ => h.fine.1 he⟩
 | short h he hk hl2 =>
  have hv : rcT (x, nx, e, p) = rcT (⟨⟨#[]⟩, 0, 0, 0, ⟨#[]⟩⟩, 0, 4, (B.length : Int)) := hv
  obtain ⟨_, _, rfl, rfl⟩ := zDi hv
  exact ⟨fun h0 => ab h0 (by decide), fun _ => ⟨by omega, by omega⟩⟩
 | @data r k y h he hk hl2 hy hf =>
  have hv : rcT (x, nx, e, p) = rcT (⟨⟨#[]⟩, 0, 0, 0, ⟨#[]⟩⟩, 0, y.2.1, y.2.2) := hv
  obtain ⟨_, _, rfl, rfl⟩ := zDi hv
  exact ⟨fun h0 => ab h0 hf, fun _ => (hy.fine.1 hf).2⟩
 | @fine r k y h he hk hl2 hy hf =>
  have hv : rcT (x, nx, e, p) = rcT (⟨mkS r.s, numAt B k 2, numAt B (k + 2) 2, (if numAt B (k + 4) 4 > 2147483647 then 0 else (numAt B (k + 4) 4 : Int)), mkS y.1⟩, ((k + 10 : Nat) : Int) + (numAt B (k + 8) 2 : Int), 0, 0) := hv
  obtain ⟨_, rfl, rfl, _⟩ := zDi hv
  obtain ⟨_, _, h3, h4⟩ := hy.fine.2 hf
  exact ⟨fun _ => ⟨by omega, by omega⟩, fun h0 => ab rfl h0⟩
theorem mrQ.place {B : Bl} {nq : Nat} {l : List MwI} {a : Int} (h : mrQ B nq l a) (hB : 12 <= B.length) : 0 <= a /\ a <= B.length := by
 induction h with
 | nil => exact ⟨by decide, by omega⟩
 | q h hl hq ih => exact hq.place.1 rfl
 | r h hl hr ih => exact hr.place.1 rfl
theorem zLi {B : Bl} {m : MsT} {e p : Int} (h : msQ B m e p) (he : e ≠ 0) : m = zM /\ 0 <= p /\ p <= B.length := by
 cases h with
 | long h => exact ⟨rfl, Int.le_refl _, by omega⟩
 | short h => exact ⟨rfl, by omega, by omega⟩
 | fault h hl ht hb h0 =>
  refine ⟨rfl, ?_⟩
  rcases hb with ⟨_, x, nx, hb⟩ | ⟨_, x, nx, hb⟩
  ·exact hb.place.2 he
  exact hb.place.2 he
 | rest h hl ht ha => exact ⟨rfl, hl.place h.1⟩
 | fine h => exact ab rfl he
end
section
open Go Go.RowKit
noncomputable def tbRm2 : Tb Try.prog 0 := tbOf mixed [zQc, zQe, zSt, zLd]
def rmE (id fl : Int) (q : List QuX) (an ns ar : List RcX) (e p : Int) (f : Nat -> Option Value) : Fs := ⟨slots 7 [(2, pt 0), (3, pt 1)] f, heapO 3 [(0, .cells [.int .i64 id, .int .i64 fl, lsV 2 q, lsV 3 an, lsV 4 ns, lsV 5 ar] 25), (1, .cells [.int .i64 e, .int .i64 p] 48)] [(2, lsO layQ q), (3, lsO layR an), (4, lsO layR ns), (5, lsO layR ar)], 6, [], [.call 60 [pt 1, pt 0] []]⟩
theorem zGo (id fl : Int) (q : List QuX) (an ns ar : List RcX) (R : Res -> Prop) (f : Nat -> Option Value) : fnK tbRm2 Try.f34 R .ret (rmE id fl q an ns ar 0 0 f) = R (.ret (.tuple #[.agg #[.int .i64 id, .int .i64 fl, lsV 2 q, lsV 3 an, lsV 4 ns, lsV 5 ar], .agg #[.int .i64 0, .int .i64 0]]) (resH (endR tbRm2 Try.f34 .ret (rmE id fl q an ns ar 0 0 f))) (resN (endR tbRm2 Try.f34 .ret (rmE id fl q an ns ar 0 0 f))) []) := by kernel_rfl
theorem rm_e1a (n : Nat) (id fl : Int) (q : List QuX) (an ns ar : List RcX) (p : Int) (R : Res -> Prop) (f : Nat -> Option Value) : fnK tbRm2 Try.f34 R .ret (rmE id fl q an ns ar (.ofNat (n + 1)) p f) = R (.ret (.tuple #[.agg #[.int .i64 0, .int .i64 0, .slice none 0 0, .slice none 0 0, .slice none 0 0, .slice none 0 0], .agg #[.int .i64 (.ofNat (n + 1)), .int .i64 p]]) (resH (endR tbRm2 Try.f34 .ret (rmE id fl q an ns ar (.ofNat (n + 1)) p f))) (resN (endR tbRm2 Try.f34 .ret (rmE id fl q an ns ar (.ofNat (n + 1)) p f))) [0]) := by kernel_rfl
theorem rm_e1b (n : Nat) (id fl : Int) (q : List QuX) (an ns ar : List RcX) (p : Int) (R : Res -> Prop) (f : Nat -> Option Value) : fnK tbRm2 Try.f34 R .ret (rmE id fl q an ns ar (.negSucc n) p f) = R (.ret (.tuple #[.agg #[.int .i64 0, .int .i64 0, .slice none 0 0, .slice none 0 0, .slice none 0 0, .slice none 0 0], .agg #[.int .i64 (.negSucc n), .int .i64 p]]) (resH (endR tbRm2 Try.f34 .ret (rmE id fl q an ns ar (.negSucc n) p f))) (resN (endR tbRm2 Try.f34 .ret (rmE id fl q an ns ar (.negSucc n) p f))) [0]) := by kernel_rfl
theorem zBg (e : Int) (he : e ≠ 0) (id fl : Int) (q : List QuX) (an ns ar : List RcX) (p : Int) (R : Res -> Prop) (f : Nat -> Option Value) : fnK tbRm2 Try.f34 R .ret (rmE id fl q an ns ar e p f) = R (.ret (.tuple #[.agg #[.int .i64 0, .int .i64 0, .slice none 0 0, .slice none 0 0, .slice none 0 0, .slice none 0 0], .agg #[.int .i64 e, .int .i64 p]]) (resH (endR tbRm2 Try.f34 .ret (rmE id fl q an ns ar e p f))) (resN (endR tbRm2 Try.f34 .ret (rmE id fl q an ns ar e p f))) [0]) :=
 match e, he with
 | .ofNat 0, h => ab rfl h
 | .ofNat (n + 1), _ => rm_e1a n id fl q an ns ar p R f
 | .negSucc n, _ => rm_e1b n id fl q an ns ar p R f
theorem zGp (id fl : Int) (q : List QuX) (an ns ar : List RcX) (f : Nat -> Option Value) : (resH (endR tbRm2 Try.f34 .ret (rmE id fl q an ns ar 0 0 f))).get 2 = lsO layQ q := by kernel_rfl
theorem zGq (id fl : Int) (q : List QuX) (an ns ar : List RcX) (f : Nat -> Option Value) : (resH (endR tbRm2 Try.f34 .ret (rmE id fl q an ns ar 0 0 f))).get 3 = lsO layR an := by kernel_rfl
theorem zGr (id fl : Int) (q : List QuX) (an ns ar : List RcX) (f : Nat -> Option Value) : (resH (endR tbRm2 Try.f34 .ret (rmE id fl q an ns ar 0 0 f))).get 4 = lsO layR ns := by kernel_rfl
theorem zGs (id fl : Int) (q : List QuX) (an ns ar : List RcX) (f : Nat -> Option Value) : (resH (endR tbRm2 Try.f34 .ret (rmE id fl q an ns ar 0 0 f))).get 5 = lsO layR ar := by kernel_rfl
def rmS1 (B : Bl) (x : Nat × List QuX × Int) (f : Nat -> Option Value) : Fs := ⟨slots 7 [(0, trB B), (2, pt 0), (3, pt 1), (4, pt 2), (5, .int .i64 x.2.2), (50, .int .i64 (numAt B 4 2 : Nat)), (51, .int .i64 (x.1 : Nat))] f, heapO 3 [(0, .cells [.int .i64 (numAt B 0 2 : Nat), .int .i64 (numAt B 2 2 : Nat), lsV 3 x.2.1, lsV 4 ([] : List RcX), lsV 5 ([] : List RcX), lsV 6 ([] : List RcX)] 25), (1, .cells [.int .i64 0, .int .i64 0] 48), (2, .cells [.int .i64 (numAt B 0 2 : Nat), .int .i64 (numAt B 2 2 : Nat), .int .i64 (numAt B 4 2 : Nat), .int .i64 (numAt B 6 2 : Nat), .int .i64 (numAt B 8 2 : Nat), .int .i64 (numAt B 10 2 : Nat)] 85)] [(3, lsO layQ x.2.1), (4, lsO layR ([] : List RcX)), (5, lsO layR ([] : List RcX)), (6, lsO layR ([] : List RcX))], 7, [], [.call 60 [pt 1, pt 0] []]⟩
def rmS2 (B : Bl) (N : Nat) (k : Int) (qp : List QuX) (x1 x2 x3 : List RcX) (at' : Int) (i : Nat) (f : Nat -> Option Value) : Fs := ⟨slots 7 [(0, trB B), (2, pt 0), (3, pt 1), (4, pt 2), (5, .int .i64 at'), (11, .pointer (some ⟨0, (3 + k.toNat), none⟩)), (73, .agg #[.pointer (some ⟨0, 3, none⟩), .pointer (some ⟨0, 4, none⟩), .pointer (some ⟨0, 5, none⟩)]), (74, .int .i64 k), (81, .int .i64 (N : Nat)), (82, .int .i64 (i : Nat))] f, heapO 3 [(0, .cells [.int .i64 (numAt B 0 2 : Nat), .int .i64 (numAt B 2 2 : Nat), lsV 3 qp, lsV 4 x1, lsV 5 x2, lsV 6 x3] 25), (1, .cells [.int .i64 0, .int .i64 0] 48), (2, .cells [.int .i64 (numAt B 0 2 : Nat), .int .i64 (numAt B 2 2 : Nat), .int .i64 (numAt B 4 2 : Nat), .int .i64 (numAt B 6 2 : Nat), .int .i64 (numAt B 8 2 : Nat), .int .i64 (numAt B 10 2 : Nat)] 85)] [(3, lsO layQ qp), (4, lsO layR x1), (5, lsO layR x2), (6, lsO layR x3)], 7, [], [.call 60 [pt 1, pt 0] []]⟩
theorem zKb (B : Bl) (k : Nat) : numAt B k 2 < 65536 := by
 unfold numAt
 have := beN_lt ((B.drop k).take 2)
 have h : ((B.drop k).take 2).length <= 2 := by rw [aU]; omega
 exact bB this (Nat.pow_le_pow_right (by decide) h)
def rmRes (B : Bl) (r : Res) : Prop := ∃ m e p H k wr, msQ B m e p /\ r = .ret (.tuple #[.agg #[.int .i64 m.id, .int .i64 m.fl, lsV 2 m.q, lsV 3 m.an, lsV 4 m.ns, lsV 5 m.ar], .agg #[.int .i64 e, .int .i64 p]]) H k wr /\ (m.q ≠ [] -> H.get 2 = lsO layQ m.q) /\ (m.an ≠ [] -> H.get 3 = lsO layR m.an) /\ (m.ns ≠ [] -> H.get 4 = lsO layR m.ns) /\ (m.ar ≠ [] -> H.get 5 = lsO layR m.ar)
theorem zAf {B : Bl} {e p : Int} {H : Tr AObj} {k : Nat} {wr : List Nat} (h : msQ B zM e p) : rmRes B (.ret (.tuple #[.agg #[.int .i64 0, .int .i64 0, .slice none 0 0, .slice none 0 0, .slice none 0 0, .slice none 0 0], .agg #[.int .i64 e, .int .i64 p]]) H k wr) :=
 ⟨zM, e, p, H, k, wr, h, rfl, fun h => ab rfl h, fun h => ab rfl h, fun h => ab rfl h, fun h => ab rfl h⟩
theorem zBq {σ : Nat -> Nat -> Prop} {b1 b2 b3 b4 c1 c2 c3 c4 : Nat} (h1 : σ b1 c1) (h2 : σ b2 c2) (h3 : σ b3 c3) (h4 : σ b4 c4) (id fl : Int) (q : List QuX) (an ns ar : List RcX) : RO Try.prog σ (.cells [.int .i64 id, .int .i64 fl, lsV b1 q, lsV b2 an, lsV b3 ns, lsV b4 ar] 25) (.cells [.int .i64 id, .int .i64 fl, lsV c1 q, lsV c2 an, lsV c3 ns, lsV c4 ar] 25) :=
 RO.cells _ [] _ _ (.cons _ _ _ _ (.int _ _) (.cons _ _ _ _ (.int _ _) (.cons _ _ _ _ (zVo h1 q) (.cons _ _ _ _ (zVo h2 an) (.cons _ _ _ _ (zVo h3 ns) (.cons _ _ _ _ (zVo h4 ar) .nil))))))
theorem zBu {α : Type} (y : α) (ys : List α) (x : α) (b : Nat) : sq b (ys.length + 1 + 1) U = lsV b (y :: (ys ++ [x])) := by
 show _ = Value.slice _ ((ys ++ [x]).length + 1) U
 rw [aB]; rfl
theorem zAk {nt : Nat} {s : Fs} {K : Fs -> Prop} {id fl e p : Int} {q : List QuX} {an ns ar : List RcX} (hd : Nat.ble (nt + 1) (2 ^ 7) = true) (hs : Nat.ble 0 s.n = true) (h2 : s.T.get 2 = some (pt 0)) (h3 : s.T.get 3 = some (pt 1)) (k0 : s.H.get 0 = some (.cells [.int .i64 id, .int .i64 fl, lsV 3 q, lsV 4 an, lsV 5 ns, lsV 6 ar] 25)) (k1 : s.H.get 1 = some (.cells [.int .i64 e, .int .i64 p] 48))
  (l1 : s.H.get 3 = lsO layQ q) (l2 : s.H.get 4 = lsO layR an) (l3 : s.H.get 5 = lsO layR ns) (l4 : s.H.get 6 = lsO layR ar) (hD : s.df = [.call 60 [pt 1, pt 0] []]) (k : ∀ f, K (rmE id fl q an ns ar e p f)) : ∃ s2, RcM Try.prog 0 0 nt none s s2 /\ K s2 :=
 zAj (zAi [0, 1, 3, 4, 5, 6] (d := 7) (d2 := 3) (lv := [(2, pt 0), (3, pt 1)]) (bs := [(0, .cells [.int .i64 id, .int .i64 fl, lsV 2 q, lsV 3 an, lsV 4 ns, lsV 5 ar] 25), (1, .cells [.int .i64 e, .int .i64 p] 48)]) (bo := [(2, lsO layQ q), (3, lsO layR an), (4, lsO layR ns), (5, lsO layR ar)]) (W := []) (m := 6) (df := [.call 60 [pt 1, pt 0] []]) hd hs rfl (fun l e => by cases e) (by decide) (by decide) rfl rfl (fun k _ h => ab h (Nat.not_lt_zero _))
  ⟨⟨_, h2, .ptr _ _ _ rfl⟩, ⟨_, h3, .ptr _ _ _ rfl⟩, tv⟩ ⟨⟨by decide, _, k0, by refine zBq ?_ ?_ ?_ ?_ _ _ _ _ _ _ <;> rfl⟩, ⟨by decide, _, k1, .same rfl⟩, tv⟩ ⟨zAa layQ (by decide) l1, zAa layR (by decide) l2, zAa layR (by decide) l3, zAa layR (by decide) l4, tv⟩ (by rw [hD]; exact (.fn _ _ _ _ _ _ _ (.cons _ _ _ _ (.ptr _ _ _ rfl) (.cons _ _ _ _ (.ptr _ _ _ rfl) .nil)) .nil .nil))) k
theorem zAs {nt : Nat} {s : Fs} {K : Fs -> Prop} {id fl e p : Int} {q : List QuX} {an ns ar : List RcX} (hd : Nat.ble (nt + 1) (2 ^ 7) = true) (hs : Nat.ble 0 s.n = true) (h2 : s.T.get 2 = some (pt 0)) (h3 : s.T.get 3 = some (pt 1)) (k0 : s.H.get 0 = some (.cells [.int .i64 id, .int .i64 fl, lsV 2 q, lsV 3 an, lsV 4 ns, lsV 5 ar] 25)) (k1 : s.H.get 1 = some (.cells [.int .i64 e, .int .i64 p] 48))
  (l1 : s.H.get 2 = lsO layQ q) (l2 : s.H.get 3 = lsO layR an) (l3 : s.H.get 4 = lsO layR ns) (l4 : s.H.get 5 = lsO layR ar) (hD : s.df = [.call 60 [pt 1, pt 0] []]) (k : ∀ f, K (rmE id fl q an ns ar e p f)) : ∃ s2, RcM Try.prog 0 0 nt none s s2 /\ K s2 :=
 zAj (zAi [0, 1, 2, 3, 4, 5] (d := 7) (d2 := 3) (lv := [(2, pt 0), (3, pt 1)]) (bs := [(0, .cells [.int .i64 id, .int .i64 fl, lsV 2 q, lsV 3 an, lsV 4 ns, lsV 5 ar] 25), (1, .cells [.int .i64 e, .int .i64 p] 48)]) (bo := [(2, lsO layQ q), (3, lsO layR an), (4, lsO layR ns), (5, lsO layR ar)]) (W := []) (m := 6) (df := [.call 60 [pt 1, pt 0] []]) hd hs rfl (fun l e => by cases e) (by decide) (by decide) rfl rfl (fun k _ h => ab h (Nat.not_lt_zero _))
  ⟨⟨_, h2, .ptr _ _ _ rfl⟩, ⟨_, h3, .ptr _ _ _ rfl⟩, tv⟩ ⟨⟨by decide, _, k0, by refine zBq ?_ ?_ ?_ ?_ _ _ _ _ _ _ <;> rfl⟩, ⟨by decide, _, k1, .same rfl⟩, tv⟩ ⟨zAa layQ (by decide) l1, zAa layR (by decide) l2, zAa layR (by decide) l3, zAa layR (by decide) l4, tv⟩ (by rw [hD]; exact (.fn _ _ _ _ _ _ _ (.cons _ _ _ _ (.ptr _ _ _ rfl) (.cons _ _ _ _ (.ptr _ _ _ rfl) .nil)) .nil .nil))) k
theorem msRead_fn (B : Bl) (hB : B.length <= 1000000) : ∃ r, FnS Try.prog 0 34 [trB B] .e 0 r /\ rmRes B r := by
 have hszQ : (Try.prog.types[57]).size = 3 := by kernel_rfl
 have hbyQ : (Try.prog.types[57]).bytes = 32 := by kernel_rfl
 have hszR : (Try.prog.types[69]).size = 5 := by kernel_rfl
 have hbyR : (Try.prog.types[69]).bytes = 56 := by kernel_rfl
 refine zVe mixed tbRm2 [] Try.func34 (c := bodyOf Try.f34) (by kernel_rfl) ?_
 refine ifK (fun g1 => ?_) (fun g1 => ?_)
 ·have g1 : 65535 < B.length := by have g1 : ((B.length : Nat) : Int) > 65535 := oT g1; omega
  refine aI rfl (zAj (zAi [0, 1, 40, 41, 42, 43] rfl rfl rfl (fun l e => by cases e) (by decide) (by decide) rfl rfl (zBo rfl) (d := 7) (d2 := 3) (lv := [(2, pt 0), (3, pt 1)]) (bs := [(0, .cells [.int .i64 0, .int .i64 0, lsV 2 ([] : List QuX), lsV 3 ([] : List RcX), lsV 4 ([] : List RcX), lsV 5 ([] : List RcX)] 25), (1, .cells [.int .i64 3, .int .i64 0] 48)]) (bo := [(2, lsO layQ ([] : List QuX)), (3, lsO layR ([] : List RcX)), (4, lsO layR ([] : List RcX)), (5, lsO layR ([] : List RcX))]) (W := []) (m := 6) (df := [.call 60 [pt 1, pt 0] []]) ⟨(sP rfl rfl), (sP rfl rfl), tv⟩ ⟨bpo rfl, bpo rfl, tv⟩ ⟨(fun o ho => by cases ho), (fun o ho => by cases ho), (fun o ho => by cases ho), (fun o ho => by cases ho), tv⟩ (.fn _ _ _ _ _ _ _ (.cons _ _ _ _ (.ptr _ _ _ rfl) (.cons _ _ _ _ (.ptr _ _ _ rfl) .nil)) .nil .nil)) (fun f => ?_))
  refine Eq.mpr (zBg 3 (by decide) 0 0 [] [] [] [] 0 _ f) ?_
  exact zAf (.long g1)
 have g1 : B.length <= 65535 := by have g1 : ¬ ((B.length : Nat) : Int) > 65535 := oF g1; omega
 refine ifK (fun g2 => ?_) (fun g2 => ?_)
 ·have g2 : B.length < 12 := by have g2 : ((B.length : Nat) : Int) < 12 := oT g2; omega
  refine aI rfl (zAj (zAi [0, 1, 40, 41, 42, 43] rfl rfl rfl (fun l e => by cases e) (by decide) (by decide) rfl rfl (zBo rfl) (d := 7) (d2 := 3) (lv := [(2, pt 0), (3, pt 1)]) (bs := [(0, .cells [.int .i64 0, .int .i64 0, lsV 2 ([] : List QuX), lsV 3 ([] : List RcX), lsV 4 ([] : List RcX), lsV 5 ([] : List RcX)] 25), (1, .cells [.int .i64 4, .int .i64 (B.length : Nat)] 48)]) (bo := [(2, lsO layQ ([] : List QuX)), (3, lsO layR ([] : List RcX)), (4, lsO layR ([] : List RcX)), (5, lsO layR ([] : List RcX))]) (W := []) (m := 6) (df := [.call 60 [pt 1, pt 0] []]) ⟨(sP rfl rfl), (sP rfl rfl), tv⟩ ⟨bpo rfl, bpo rfl, tv⟩ ⟨(fun o ho => by cases ho), (fun o ho => by cases ho), (fun o ho => by cases ho), (fun o ho => by cases ho), tv⟩ (.fn _ _ _ _ _ _ _ (.cons _ _ _ _ (.ptr _ _ _ rfl) (.cons _ _ _ _ (.ptr _ _ _ rfl) .nil)) .nil .nil)) (fun f => ?_))
  refine Eq.mpr (zBg 4 (by decide) 0 0 [] [] [] [] _ _ f) ?_
  exact zAf (.short g2)
 have g2 : 12 <= B.length := by have g2 : ¬ ((B.length : Nat) : Int) < 12 := oF g2; omega
 have hne : B ≠ [] := fun h => by rw [h] at g2; exact ab g2 (by decide)
 refine LW.round ?_
 refine zAt tbRm2 [] 0 _ none mixed _ _ _ ?_
 refine eI (B, (0 : Int)) (aI ⟨rfl, hne, by show B.length <= _; omega, (show (0 : Int) <= 0 by decide), by show 0 + 2 <= B.length; omega⟩ ?_)
 refine LW.round ?_
 refine zAt tbRm2 [] 0 _ none mixed _ _ _ ?_
 refine eI (B, (2 : Int)) (aI ⟨rfl, hne, by show B.length <= _; omega, (show (0 : Int) <= 2 by decide), by show 2 + 2 <= B.length; omega⟩ ?_)
 refine LW.round ?_
 refine zAt tbRm2 [] 0 _ none mixed _ _ _ ?_
 refine eI (B, (4 : Int)) (aI ⟨rfl, hne, by show B.length <= _; omega, (show (0 : Int) <= 4 by decide), by show 4 + 2 <= B.length; omega⟩ ?_)
 refine LW.round ?_
 refine zAt tbRm2 [] 0 _ none mixed _ _ _ ?_
 refine eI (B, (6 : Int)) (aI ⟨rfl, hne, by show B.length <= _; omega, (show (0 : Int) <= 6 by decide), by show 6 + 2 <= B.length; omega⟩ ?_)
 refine LW.round ?_
 refine zAt tbRm2 [] 0 _ none mixed _ _ _ ?_
 refine eI (B, (8 : Int)) (aI ⟨rfl, hne, by show B.length <= _; omega, (show (0 : Int) <= 8 by decide), by show 8 + 2 <= B.length; omega⟩ ?_)
 refine LW.round ?_
 refine zAt tbRm2 [] 0 _ none mixed _ _ _ ?_
 refine eI (B, (10 : Int)) (aI ⟨rfl, hne, by show B.length <= _; omega, (show (0 : Int) <= 10 by decide), by show 10 + 2 <= B.length; omega⟩ ?_)
 refine LW.round ?_
 refine zAt tbRm2 [] 0 _ none mixed _ _ _ ?_
 refine aI (by kernel_rfl) ?_
 refine zAr (rmS1 B) (fun x => numAt B 4 2 - x.1) (fun x => x.1 <= numAt B 4 2 /\ x.2.1.length = x.1 /\ mrQ B (numAt B 4 2) (x.2.1.map .inl) x.2.2) (0, [], 12) ⟨aH _, rfl, .nil⟩ ?_ ?_
 ·exact zAi [0, 1, 2, 40, 41, 42, 43] rfl rfl rfl (fun l e => by cases e) (by decide) (by decide) rfl rfl (zBo rfl) ⟨⟨_, rfl, zAh 8 rfl⟩, (sP rfl rfl), (sP rfl rfl), (sP rfl rfl), (sI rfl), (sI rfl), (sI rfl), tv⟩ ⟨bpo rfl, bpo rfl, bpo rfl, tv⟩ ⟨(fun o ho => by cases ho), (fun o ho => by cases ho), (fun o ho => by cases ho), (fun o ho => by cases ho), tv⟩ (.fn _ _ _ _ _ _ _ (.cons _ _ _ _ (.ptr _ _ _ rfl) (.cons _ _ _ _ (.ptr _ _ _ rfl) .nil)) .nil .nil)
 rintro ⟨i, q, at'⟩ f ⟨hi, hql, hm⟩
 have hi : i <= numAt B 4 2 := hi
 have hql : q.length = i := hql
 have hm : mrQ B (numAt B 4 2) (q.map .inl) at' := hm
 have hn2 : numAt B 4 2 < 65536 := zKb B 4
 refine zAt tbRm2 [] 0 _ none mixed _ _ _ ?_
 refine ifK (fun h1 => ?_) (fun h1 => ?_)
 ·have hlt : i < numAt B 4 2 := by have h1 : ((i : Nat) : Int) < ((numAt B 4 2 : Nat) : Int) := oT h1; omega
  refine eI (B, at') (aI ⟨rfl, hne, by show B.length <= _; omega⟩ ?_)
  rintro ⟨x, nx, e, p⟩ hQ
  have hQ : queQ B at' (quT (x, nx, e, p)) := hQ
  refine ifK (fun h2 => ?_) (fun h2 => ?_)
  ·have he : e ≠ 0 := by have h2 : (e != 0) = true := h2; simpa using h2
   have hb : mrBad B (numAt B 4 2) (q.map .inl) at' e p := .inl ⟨by rw [aT]; omega, x, nx, hQ⟩
   have ht : (q.map (Sum.inl (β := RcX))).length < totB B := by rw [aT]; unfold totB; omega
   cases q with
   | nil =>
    refine aI (by kernel_rfl) ?_
    refine aI rfl (zAk (q := ([] : List QuX)) (an := ([] : List RcX)) (ns := ([] : List RcX)) (ar := ([] : List RcX)) rfl rfl rfl rfl rfl rfl rfl rfl rfl rfl rfl (fun f => ?_))
    refine aI rfl (zAs (q := ([] : List QuX)) (an := ([] : List RcX)) (ns := ([] : List RcX)) (ar := ([] : List RcX)) rfl rfl rfl rfl rfl rfl rfl rfl rfl rfl rfl (fun f => ?_))
    refine Eq.mpr (zBg e he _ _ _ _ _ _ p _ f) ?_
    exact zAf (.fault ⟨g2, g1⟩ hm ht hb he)
   | cons q0 qs =>
    refine aI (by kernel_rfl) ?_
    refine aI rfl (zAk (q := (q0 :: qs)) (an := ([] : List RcX)) (ns := ([] : List RcX)) (ar := ([] : List RcX)) rfl rfl rfl rfl rfl rfl rfl rfl rfl rfl rfl (fun f => ?_))
    refine aI rfl (zAs (q := (q0 :: qs)) (an := ([] : List RcX)) (ns := ([] : List RcX)) (ar := ([] : List RcX)) rfl rfl rfl rfl rfl rfl rfl rfl rfl rfl rfl (fun f => ?_))
    refine Eq.mpr (zBg e he _ _ _ _ _ _ p _ f) ?_
    exact zAf (.fault ⟨g2, g1⟩ hm ht hb he)
  have he : e = 0 := by have h2 : (e != 0) = false := h2; simpa using h2
  subst he
  have hm2 : mrQ B (numAt B 4 2) ((q ++ [x]).map .inl) nx := by
   rw [List.map_append]
   exact .q hm (by rw [aT]; omega) hQ
  cases q with
  | nil =>
   refine ⟨(i + 1, [x], nx), ⟨hlt, by rw [<- hql]; rfl, hm2⟩, by show numAt B 4 2 - (i + 1) < numAt B 4 2 - i; omega, ?_⟩
   exact zAi [0, 1, 2, 10, 4, 5, 6] rfl rfl rfl (fun l e => by cases e) (by decide) (by decide) rfl rfl (zBo rfl) ⟨⟨_, rfl, zAh 8 rfl⟩, (sP rfl rfl), (sP rfl rfl), (sP rfl rfl), (sI rfl), (sI rfl), zAc rfl (by rw [wrapN (by omega) (by omega)]; omega), tv⟩ ⟨⟨by decide, _, rfl, by show RO _ _ (.cells [.int .i64 _, .int .i64 _, lsV 10 [x], lsV 4 ([] : List RcX), lsV 5 ([] : List RcX), lsV 6 ([] : List RcX)] _) _; refine zBq (b1 := 10) (b2 := 4) (b3 := 5) (b4 := 6) (c1 := 3) (c2 := 4) (c3 := 5) (c4 := 6) ?_ ?_ ?_ ?_ _ _ [x] ([] : List RcX) ([] : List RcX) ([] : List RcX) <;> rfl⟩, bpo rfl, bpo rfl, tv⟩ ⟨(fun o ho => ⟨by decide, _, rfl, by cases ho; exact zAv rfl rfl⟩), (zAa layR (by decide) rfl), (zAa layR (by decide) rfl), (zAa layR (by decide) rfl), tv⟩ (.fn _ _ _ _ _ _ _ (.cons _ _ _ _ (.ptr _ _ _ rfl) (.cons _ _ _ _ (.ptr _ _ _ rfl) .nil)) .nil .nil)
  | cons y ys =>
   have hfl : (List.flatMap layQ.g (y :: ys)).length = (ys.length + 1) * 3 := zAg layQ.g 3 layQ.len (y :: ys)
   have hyl : ys.length + 1 = i := hql
   refine aI (by rw [hszQ, hbyQ]; simp only [bA, dT]; exact ⟨⟨⟨⟨⟨⟨rfl, rfl⟩, bL (by rw [hfl]; omega)⟩, rfl⟩, by omega⟩, by omega⟩, bL (by rw [hfl]; show (ys.length + 1) * 3 + 1 <= 0 + (ys.length + 1) * 3 + 3; omega)⟩) ?_
   have ec : List.take ((ys.length + 1) * 3) (List.flatMap layQ.g (y :: ys)) ++ layQ.g x = (y :: (ys ++ [x])).flatMap layQ.g := by rw [aD (by rw [hfl]; omega), <- bC, List.flatMap_append]; simp
   refine ⟨(i + 1, y :: (ys ++ [x]), nx), ⟨hlt, by show (y :: (ys ++ [x])).length = _; simp; omega, hm2⟩, by show numAt B 4 2 - (i + 1) < numAt B 4 2 - i; omega, ?_⟩
   exact zAi [0, 1, 2, 10, 4, 5, 6] rfl rfl rfl (fun l e => by cases e) (by decide) (by decide) rfl rfl (zBo rfl) ⟨⟨_, rfl, zAh 8 rfl⟩, (sP rfl rfl), (sP rfl rfl), (sP rfl rfl), (sI rfl), (sI rfl), zAc rfl (by rw [wrapN (by omega) (by omega)]; omega), tv⟩ ⟨⟨by decide, _, rfl, by show RO _ _ (.cells [.int .i64 _, .int .i64 _, sq 10 (ys.length + 1 + 1) U, lsV 4 ([] : List RcX), lsV 5 ([] : List RcX), lsV 6 ([] : List RcX)] _) _; rw [zBu y ys x 10]; refine zBq (b1 := 10) (b2 := 4) (b3 := 5) (b4 := 6) (c1 := 3) (c2 := 4) (c3 := 5) (c4 := 6) ?_ ?_ ?_ ?_ _ _ (y :: (ys ++ [x])) ([] : List RcX) ([] : List RcX) ([] : List RcX) <;> rfl⟩, bpo rfl, bpo rfl, tv⟩ ⟨(fun o ho => ⟨by decide, _, rfl, by cases ho; exact zAv (by rw [<- ec]; rfl) (zAe layQ.g layQ.plain _)⟩), (zAa layR (by decide) rfl), (zAa layR (by decide) rfl), (zAa layR (by decide) rfl), tv⟩ (.fn _ _ _ _ _ _ _ (.cons _ _ _ _ (.ptr _ _ _ rfl) (.cons _ _ _ _ (.ptr _ _ _ rfl) .nil)) .nil .nil)
 have hiq : i = numAt B 4 2 := by have h1 : ¬ ((i : Nat) : Int) < ((numAt B 4 2 : Nat) : Int) := oF h1; omega
 subst hiq
 have hm : mrQ B (numAt B 4 2) (q.map (Sum.inl (β := RcX))) at' := hm
 refine aI rfl (zAj (zAi [0, 1, 2, 3, 4, 5, 6] rfl rfl rfl (fun l e => by cases e) (by decide) (by decide) rfl rfl (zBo rfl) (d := 7) (d2 := 3) (lv := [(0, trB B), (2, pt 0), (3, pt 1), (4, pt 2), (5, .int .i64 at')]) (bs := [(0, .cells [.int .i64 (numAt B 0 2 : Nat), .int .i64 (numAt B 2 2 : Nat), lsV 3 q, lsV 4 ([] : List RcX), lsV 5 ([] : List RcX), lsV 6 ([] : List RcX)] 25), (1, .cells [.int .i64 0, .int .i64 0] 48), (2, .cells [.int .i64 (numAt B 0 2 : Nat), .int .i64 (numAt B 2 2 : Nat), .int .i64 (numAt B 4 2 : Nat), .int .i64 (numAt B 6 2 : Nat), .int .i64 (numAt B 8 2 : Nat), .int .i64 (numAt B 10 2 : Nat)] 85)]) (bo := [(3, lsO layQ q), (4, lsO layR ([] : List RcX)), (5, lsO layR ([] : List RcX)), (6, lsO layR ([] : List RcX))]) (W := []) (m := 7) (df := [.call 60 [pt 1, pt 0] []]) ⟨⟨_, rfl, zAh 8 rfl⟩, (sP rfl rfl), (sP rfl rfl), (sP rfl rfl), (sI rfl), tv⟩ ⟨⟨by decide, _, rfl, by refine zBq (b1 := 3) (b2 := 4) (b3 := 5) (b4 := 6) (c1 := 3) (c2 := 4) (c3 := 5) (c4 := 6) ?_ ?_ ?_ ?_ _ _ q ([] : List RcX) ([] : List RcX) ([] : List RcX) <;> rfl⟩, bpo rfl, bpo rfl, tv⟩ ⟨(zAa layQ (by decide) rfl), (zAa layR (by decide) rfl), (zAa layR (by decide) rfl), (zAa layR (by decide) rfl), tv⟩ (.fn _ _ _ _ _ _ _ (.cons _ _ _ _ (.ptr _ _ _ rfl) (.cons _ _ _ _ (.ptr _ _ _ rfl) .nil)) .nil .nil)) (fun f => ?_))
 refine aI (by kernel_rfl) ?_
 have hlq : q.length = numAt B 4 2 := hql
 refine LW.round ?_
 refine zAt tbRm2 [] 0 _ none mixed _ _ _ ?_
 refine zAr (fun (x : Nat × List RcX × Int) => rmS2 B (numAt B 6 2) 0 q x.2.1 ([] : List RcX) ([] : List RcX) x.2.2 x.1) (fun x => numAt B 6 2 - x.1) (fun x => x.1 <= numAt B 6 2 /\ x.2.1.length = x.1 /\ mrQ B (numAt B 4 2) (q.map (Sum.inl (β := RcX)) ++ x.2.1.map .inr) x.2.2) (0, [], at') ⟨aH _, rfl, by rw [List.map_nil, aF]; exact hm⟩ ?_ ?_
 ·exact zAi [0, 1, 2, 3, 4, 5, 6] rfl rfl rfl (fun l e => by cases e) (by decide) (by decide) rfl rfl (zBo rfl) ⟨⟨_, rfl, zAh 8 rfl⟩, (sP rfl rfl), (sP rfl rfl), (sP rfl rfl), (sI rfl), (sP rfl rfl), ⟨_, rfl, .agg _ _ (.cons _ _ _ _ (.ptr _ _ _ rfl) (.cons _ _ _ _ (.ptr _ _ _ rfl) (.cons _ _ _ _ (.ptr _ _ _ rfl) .nil)))⟩, (sI rfl), (sI rfl), (sI rfl), tv⟩ ⟨⟨by decide, _, rfl, by refine zBq (b1 := 3) (b2 := 4) (b3 := 5) (b4 := 6) (c1 := 3) (c2 := 4) (c3 := 5) (c4 := 6) ?_ ?_ ?_ ?_ _ _ q ([] : List RcX) ([] : List RcX) ([] : List RcX) <;> rfl⟩, bpo rfl, bpo rfl, tv⟩ ⟨(zAa layQ (by decide) rfl), (zAa layR (by decide) rfl), (zAa layR (by decide) rfl), (zAa layR (by decide) rfl), tv⟩ (.fn _ _ _ _ _ _ _ (.cons _ _ _ _ (.ptr _ _ _ rfl) (.cons _ _ _ _ (.ptr _ _ _ rfl) .nil)) .nil .nil)
 rintro ⟨i, an, at'⟩ f ⟨hi, hql, hm⟩
 have hi : i <= numAt B 6 2 := hi
 have hql : an.length = i := hql
 have hm : mrQ B (numAt B 4 2) (q.map (Sum.inl (β := RcX)) ++ an.map .inr) at' := hm
 have hnn : numAt B 6 2 < 65536 := zKb B 6
 have hpl : (q.map (Sum.inl (β := RcX))).length = numAt B 4 2 := by simp only [aB, aT]; omega
 refine zAt tbRm2 [] 0 _ none mixed _ _ _ ?_
 refine ifK (fun h1 => ?_) (fun h1 => ?_)
 ·have hlt : i < numAt B 6 2 := by have h1 : ((i : Nat) : Int) < ((numAt B 6 2 : Nat) : Int) := oT h1; omega
  refine eI (B, at') (aI ⟨rfl, hne, by show B.length <= _; omega⟩ ?_)
  rintro ⟨x, nx, e, p⟩ hQ
  have hQ : recQ B at' (rcT (x, nx, e, p)) := hQ
  have hpl2 : (q.map (Sum.inl (β := RcX)) ++ an.map (Sum.inr (α := QuX))).length = numAt B 4 2 + i := by rw [aB, hpl, aT, hql]
  refine ifK (fun h2 => ?_) (fun h2 => ?_)
  ·have he : e ≠ 0 := by have h2 : (e != 0) = true := h2; simpa using h2
   have hb : mrBad B (numAt B 4 2) (q.map (Sum.inl (β := RcX)) ++ an.map .inr) at' e p := .inr ⟨by rw [hpl2]; omega, x, nx, hQ⟩
   have ht : (q.map (Sum.inl (β := RcX)) ++ an.map (Sum.inr (α := QuX))).length < totB B := by rw [hpl2]; unfold totB; omega
   cases q with
   | nil =>
    cases an with
    | nil =>
     refine aI (by kernel_rfl) ?_
     refine aI rfl (zAk (q := ([] : List QuX)) (an := ([] : List RcX)) (ns := ([] : List RcX)) (ar := ([] : List RcX)) rfl rfl rfl rfl rfl rfl rfl rfl rfl rfl rfl (fun f => ?_))
     refine aI rfl (zAs (q := ([] : List QuX)) (an := ([] : List RcX)) (ns := ([] : List RcX)) (ar := ([] : List RcX)) rfl rfl rfl rfl rfl rfl rfl rfl rfl rfl rfl (fun f => ?_))
     refine Eq.mpr (zBg e he _ _ _ _ _ _ p _ f) ?_
     exact zAf (.fault ⟨g2, g1⟩ hm ht hb he)
    | cons an0 ans =>
     refine aI (by kernel_rfl) ?_
     refine aI rfl (zAk (q := ([] : List QuX)) (an := (an0 :: ans)) (ns := ([] : List RcX)) (ar := ([] : List RcX)) rfl rfl rfl rfl rfl rfl rfl rfl rfl rfl rfl (fun f => ?_))
     refine aI rfl (zAs (q := ([] : List QuX)) (an := (an0 :: ans)) (ns := ([] : List RcX)) (ar := ([] : List RcX)) rfl rfl rfl rfl rfl rfl rfl rfl rfl rfl rfl (fun f => ?_))
     refine Eq.mpr (zBg e he _ _ _ _ _ _ p _ f) ?_
     exact zAf (.fault ⟨g2, g1⟩ hm ht hb he)
   | cons q0 qs =>
    cases an with
    | nil =>
     refine aI (by kernel_rfl) ?_
     refine aI rfl (zAk (q := (q0 :: qs)) (an := ([] : List RcX)) (ns := ([] : List RcX)) (ar := ([] : List RcX)) rfl rfl rfl rfl rfl rfl rfl rfl rfl rfl rfl (fun f => ?_))
     refine aI rfl (zAs (q := (q0 :: qs)) (an := ([] : List RcX)) (ns := ([] : List RcX)) (ar := ([] : List RcX)) rfl rfl rfl rfl rfl rfl rfl rfl rfl rfl rfl (fun f => ?_))
     refine Eq.mpr (zBg e he _ _ _ _ _ _ p _ f) ?_
     exact zAf (.fault ⟨g2, g1⟩ hm ht hb he)
    | cons an0 ans =>
     refine aI (by kernel_rfl) ?_
     refine aI rfl (zAk (q := (q0 :: qs)) (an := (an0 :: ans)) (ns := ([] : List RcX)) (ar := ([] : List RcX)) rfl rfl rfl rfl rfl rfl rfl rfl rfl rfl rfl (fun f => ?_))
     refine aI rfl (zAs (q := (q0 :: qs)) (an := (an0 :: ans)) (ns := ([] : List RcX)) (ar := ([] : List RcX)) rfl rfl rfl rfl rfl rfl rfl rfl rfl rfl rfl (fun f => ?_))
     refine Eq.mpr (zBg e he _ _ _ _ _ _ p _ f) ?_
     exact zAf (.fault ⟨g2, g1⟩ hm ht hb he)
  have he : e = 0 := by have h2 : (e != 0) = false := h2; simpa using h2
  subst he
  have hm2 : mrQ B (numAt B 4 2) (q.map (Sum.inl (β := RcX)) ++ (an ++ [x]).map .inr) nx := by
   rw [List.map_append, <- aN]
   exact .r hm (by rw [hpl2]; omega) hQ
  cases q with
  | nil =>
   cases an with
   | nil =>
    refine aI (by kernel_rfl) ?_
    refine ⟨(i + 1, [x], nx), ⟨hlt, by rw [<- hql]; rfl, hm2⟩, by show numAt B 6 2 - (i + 1) < numAt B 6 2 - i; omega, ?_⟩
    exact zAi [0, 1, 2, 3, 10, 5, 6] rfl rfl rfl (fun l e => by cases e) (by decide) (by decide) rfl rfl (zBo rfl) ⟨⟨_, rfl, zAh 8 rfl⟩, (sP rfl rfl), (sP rfl rfl), (sP rfl rfl), (sI rfl), (sP rfl rfl), ⟨_, rfl, .agg _ _ (.cons _ _ _ _ (.ptr _ _ _ rfl) (.cons _ _ _ _ (.ptr _ _ _ rfl) (.cons _ _ _ _ (.ptr _ _ _ rfl) .nil)))⟩, (sI rfl), (sI rfl), zAc rfl (by rw [wrapN (by omega) (by omega)]; omega), tv⟩ ⟨⟨by decide, _, rfl, by show RO _ _ (.cells [.int .i64 _, .int .i64 _, lsV 3 ([] : List QuX), lsV 10 [x], lsV 5 ([] : List RcX), lsV 6 ([] : List RcX)] _) _; refine zBq (b1 := 3) (b2 := 10) (b3 := 5) (b4 := 6) (c1 := 3) (c2 := 4) (c3 := 5) (c4 := 6) ?_ ?_ ?_ ?_ _ _ ([] : List QuX) [x] ([] : List RcX) ([] : List RcX) <;> rfl⟩, bpo rfl, bpo rfl, tv⟩ ⟨(zAa layQ (by decide) rfl), (fun o ho => ⟨by decide, _, rfl, by cases ho; exact zAv rfl rfl⟩), (zAa layR (by decide) rfl), (zAa layR (by decide) rfl), tv⟩ (.fn _ _ _ _ _ _ _ (.cons _ _ _ _ (.ptr _ _ _ rfl) (.cons _ _ _ _ (.ptr _ _ _ rfl) .nil)) .nil .nil)
   | cons y ys =>
    have hfl : (List.flatMap layR.g (y :: ys)).length = (ys.length + 1) * 5 := zAg layR.g 5 layR.len (y :: ys)
    have hyl : ys.length + 1 = i := hql
    refine aI (by kernel_rfl) ?_
    refine aI (by rw [hszR, hbyR]; simp only [bA, dT]; exact ⟨⟨⟨⟨⟨⟨rfl, rfl⟩, bL (by rw [hfl]; omega)⟩, rfl⟩, by omega⟩, by omega⟩, bL (by rw [hfl]; show (ys.length + 1) * 5 + 1 <= 0 + (ys.length + 1) * 5 + 5; omega)⟩) ?_
    have ec : List.take ((ys.length + 1) * 5) (List.flatMap layR.g (y :: ys)) ++ layR.g x = (y :: (ys ++ [x])).flatMap layR.g := by rw [aD (by rw [hfl]; omega), <- bC, List.flatMap_append]; simp
    refine ⟨(i + 1, y :: (ys ++ [x]), nx), ⟨hlt, by show (y :: (ys ++ [x])).length = _; simp; omega, hm2⟩, by show numAt B 6 2 - (i + 1) < numAt B 6 2 - i; omega, ?_⟩
    exact zAi [0, 1, 2, 3, 10, 5, 6] rfl rfl rfl (fun l e => by cases e) (by decide) (by decide) rfl rfl (zBo rfl) ⟨⟨_, rfl, zAh 8 rfl⟩, (sP rfl rfl), (sP rfl rfl), (sP rfl rfl), (sI rfl), (sP rfl rfl), ⟨_, rfl, .agg _ _ (.cons _ _ _ _ (.ptr _ _ _ rfl) (.cons _ _ _ _ (.ptr _ _ _ rfl) (.cons _ _ _ _ (.ptr _ _ _ rfl) .nil)))⟩, (sI rfl), (sI rfl), zAc rfl (by rw [wrapN (by omega) (by omega)]; omega), tv⟩ ⟨⟨by decide, _, rfl, by show RO _ _ (.cells [.int .i64 _, .int .i64 _, lsV 3 ([] : List QuX), sq 10 (ys.length + 1 + 1) U, lsV 5 ([] : List RcX), lsV 6 ([] : List RcX)] _) _; rw [zBu y ys x 10]; refine zBq (b1 := 3) (b2 := 10) (b3 := 5) (b4 := 6) (c1 := 3) (c2 := 4) (c3 := 5) (c4 := 6) ?_ ?_ ?_ ?_ _ _ ([] : List QuX) (y :: (ys ++ [x])) ([] : List RcX) ([] : List RcX) <;> rfl⟩, bpo rfl, bpo rfl, tv⟩ ⟨(zAa layQ (by decide) rfl), (fun o ho => ⟨by decide, _, rfl, by cases ho; exact zAv (by rw [<- ec]; rfl) (zAe layR.g layR.plain _)⟩), (zAa layR (by decide) rfl), (zAa layR (by decide) rfl), tv⟩ (.fn _ _ _ _ _ _ _ (.cons _ _ _ _ (.ptr _ _ _ rfl) (.cons _ _ _ _ (.ptr _ _ _ rfl) .nil)) .nil .nil)
  | cons q0 qs =>
   cases an with
   | nil =>
    refine aI (by kernel_rfl) ?_
    refine ⟨(i + 1, [x], nx), ⟨hlt, by rw [<- hql]; rfl, hm2⟩, by show numAt B 6 2 - (i + 1) < numAt B 6 2 - i; omega, ?_⟩
    exact zAi [0, 1, 2, 3, 10, 5, 6] rfl rfl rfl (fun l e => by cases e) (by decide) (by decide) rfl rfl (zBo rfl) ⟨⟨_, rfl, zAh 8 rfl⟩, (sP rfl rfl), (sP rfl rfl), (sP rfl rfl), (sI rfl), (sP rfl rfl), ⟨_, rfl, .agg _ _ (.cons _ _ _ _ (.ptr _ _ _ rfl) (.cons _ _ _ _ (.ptr _ _ _ rfl) (.cons _ _ _ _ (.ptr _ _ _ rfl) .nil)))⟩, (sI rfl), (sI rfl), zAc rfl (by rw [wrapN (by omega) (by omega)]; omega), tv⟩ ⟨⟨by decide, _, rfl, by show RO _ _ (.cells [.int .i64 _, .int .i64 _, lsV 3 (q0 :: qs), lsV 10 [x], lsV 5 ([] : List RcX), lsV 6 ([] : List RcX)] _) _; refine zBq (b1 := 3) (b2 := 10) (b3 := 5) (b4 := 6) (c1 := 3) (c2 := 4) (c3 := 5) (c4 := 6) ?_ ?_ ?_ ?_ _ _ (q0 :: qs) [x] ([] : List RcX) ([] : List RcX) <;> rfl⟩, bpo rfl, bpo rfl, tv⟩ ⟨(zAa layQ (by decide) rfl), (fun o ho => ⟨by decide, _, rfl, by cases ho; exact zAv rfl rfl⟩), (zAa layR (by decide) rfl), (zAa layR (by decide) rfl), tv⟩ (.fn _ _ _ _ _ _ _ (.cons _ _ _ _ (.ptr _ _ _ rfl) (.cons _ _ _ _ (.ptr _ _ _ rfl) .nil)) .nil .nil)
   | cons y ys =>
    have hfl : (List.flatMap layR.g (y :: ys)).length = (ys.length + 1) * 5 := zAg layR.g 5 layR.len (y :: ys)
    have hyl : ys.length + 1 = i := hql
    refine aI (by kernel_rfl) ?_
    refine aI (by rw [hszR, hbyR]; simp only [bA, dT]; exact ⟨⟨⟨⟨⟨⟨rfl, rfl⟩, bL (by rw [hfl]; omega)⟩, rfl⟩, by omega⟩, by omega⟩, bL (by rw [hfl]; show (ys.length + 1) * 5 + 1 <= 0 + (ys.length + 1) * 5 + 5; omega)⟩) ?_
    have ec : List.take ((ys.length + 1) * 5) (List.flatMap layR.g (y :: ys)) ++ layR.g x = (y :: (ys ++ [x])).flatMap layR.g := by rw [aD (by rw [hfl]; omega), <- bC, List.flatMap_append]; simp
    refine ⟨(i + 1, y :: (ys ++ [x]), nx), ⟨hlt, by show (y :: (ys ++ [x])).length = _; simp; omega, hm2⟩, by show numAt B 6 2 - (i + 1) < numAt B 6 2 - i; omega, ?_⟩
    exact zAi [0, 1, 2, 3, 10, 5, 6] rfl rfl rfl (fun l e => by cases e) (by decide) (by decide) rfl rfl (zBo rfl) ⟨⟨_, rfl, zAh 8 rfl⟩, (sP rfl rfl), (sP rfl rfl), (sP rfl rfl), (sI rfl), (sP rfl rfl), ⟨_, rfl, .agg _ _ (.cons _ _ _ _ (.ptr _ _ _ rfl) (.cons _ _ _ _ (.ptr _ _ _ rfl) (.cons _ _ _ _ (.ptr _ _ _ rfl) .nil)))⟩, (sI rfl), (sI rfl), zAc rfl (by rw [wrapN (by omega) (by omega)]; omega), tv⟩ ⟨⟨by decide, _, rfl, by show RO _ _ (.cells [.int .i64 _, .int .i64 _, lsV 3 (q0 :: qs), sq 10 (ys.length + 1 + 1) U, lsV 5 ([] : List RcX), lsV 6 ([] : List RcX)] _) _; rw [zBu y ys x 10]; refine zBq (b1 := 3) (b2 := 10) (b3 := 5) (b4 := 6) (c1 := 3) (c2 := 4) (c3 := 5) (c4 := 6) ?_ ?_ ?_ ?_ _ _ (q0 :: qs) (y :: (ys ++ [x])) ([] : List RcX) ([] : List RcX) <;> rfl⟩, bpo rfl, bpo rfl, tv⟩ ⟨(zAa layQ (by decide) rfl), (fun o ho => ⟨by decide, _, rfl, by cases ho; exact zAv (by rw [<- ec]; rfl) (zAe layR.g layR.plain _)⟩), (zAa layR (by decide) rfl), (zAa layR (by decide) rfl), tv⟩ (.fn _ _ _ _ _ _ _ (.cons _ _ _ _ (.ptr _ _ _ rfl) (.cons _ _ _ _ (.ptr _ _ _ rfl) .nil)) .nil .nil)
 have hiq : i = numAt B 6 2 := by have h1 : ¬ ((i : Nat) : Int) < ((numAt B 6 2 : Nat) : Int) := oF h1; omega
 subst hiq
 have hlan : an.length = numAt B 6 2 := hql
 refine aI rfl (zAj (zAi [0, 1, 2, 3, 4, 5, 6] rfl rfl rfl (fun l e => by cases e) (by decide) (by decide) rfl rfl (zBo rfl) (d := 7) (d2 := 3) (lv := [(0, trB B), (2, pt 0), (3, pt 1), (4, pt 2), (5, .int .i64 at'), (73, .agg #[.pointer (some ⟨0, 3, none⟩), .pointer (some ⟨0, 4, none⟩), .pointer (some ⟨0, 5, none⟩)]), (74, .int .i64 0)]) (bs := [(0, .cells [.int .i64 (numAt B 0 2 : Nat), .int .i64 (numAt B 2 2 : Nat), lsV 3 q, lsV 4 an, lsV 5 ([] : List RcX), lsV 6 ([] : List RcX)] 25), (1, .cells [.int .i64 0, .int .i64 0] 48), (2, .cells [.int .i64 (numAt B 0 2 : Nat), .int .i64 (numAt B 2 2 : Nat), .int .i64 (numAt B 4 2 : Nat), .int .i64 (numAt B 6 2 : Nat), .int .i64 (numAt B 8 2 : Nat), .int .i64 (numAt B 10 2 : Nat)] 85)]) (bo := [(3, lsO layQ q), (4, lsO layR an), (5, lsO layR ([] : List RcX)), (6, lsO layR ([] : List RcX))]) (W := []) (m := 7) (df := [.call 60 [pt 1, pt 0] []]) ⟨⟨_, rfl, zAh 8 rfl⟩, (sP rfl rfl), (sP rfl rfl), (sP rfl rfl), (sI rfl), ⟨_, rfl, .agg _ _ (.cons _ _ _ _ (.ptr _ _ _ rfl) (.cons _ _ _ _ (.ptr _ _ _ rfl) (.cons _ _ _ _ (.ptr _ _ _ rfl) .nil)))⟩, (sI rfl), tv⟩ ⟨⟨by decide, _, rfl, by refine zBq (b1 := 3) (b2 := 4) (b3 := 5) (b4 := 6) (c1 := 3) (c2 := 4) (c3 := 5) (c4 := 6) ?_ ?_ ?_ ?_ _ _ q an ([] : List RcX) ([] : List RcX) <;> rfl⟩, bpo rfl, bpo rfl, tv⟩ ⟨(zAa layQ (by decide) rfl), (zAa layR (by decide) rfl), (zAa layR (by decide) rfl), (zAa layR (by decide) rfl), tv⟩ (.fn _ _ _ _ _ _ _ (.cons _ _ _ _ (.ptr _ _ _ rfl) (.cons _ _ _ _ (.ptr _ _ _ rfl) .nil)) .nil .nil)) (fun f => ?_))
 refine LW.round ?_
 refine zAt tbRm2 [] 0 _ none mixed _ _ _ ?_
 refine zAr (fun (x : Nat × List RcX × Int) => rmS2 B (numAt B 8 2) 1 q an x.2.1 ([] : List RcX) x.2.2 x.1) (fun x => numAt B 8 2 - x.1) (fun x => x.1 <= numAt B 8 2 /\ x.2.1.length = x.1 /\ mrQ B (numAt B 4 2) ((q.map (Sum.inl (β := RcX)) ++ an.map (Sum.inr (α := QuX))) ++ x.2.1.map .inr) x.2.2) (0, [], at') ⟨aH _, rfl, by rw [List.map_nil, aF]; exact hm⟩ ?_ ?_
 ·exact zAi [0, 1, 2, 3, 4, 5, 6] rfl rfl rfl (fun l e => by cases e) (by decide) (by decide) rfl rfl (zBo rfl) ⟨⟨_, rfl, zAh 8 rfl⟩, (sP rfl rfl), (sP rfl rfl), (sP rfl rfl), (sI rfl), (sP rfl rfl), ⟨_, rfl, .agg _ _ (.cons _ _ _ _ (.ptr _ _ _ rfl) (.cons _ _ _ _ (.ptr _ _ _ rfl) (.cons _ _ _ _ (.ptr _ _ _ rfl) .nil)))⟩, (sI rfl), (sI rfl), (sI rfl), tv⟩ ⟨⟨by decide, _, rfl, by refine zBq (b1 := 3) (b2 := 4) (b3 := 5) (b4 := 6) (c1 := 3) (c2 := 4) (c3 := 5) (c4 := 6) ?_ ?_ ?_ ?_ _ _ q an ([] : List RcX) ([] : List RcX) <;> rfl⟩, bpo rfl, bpo rfl, tv⟩ ⟨(zAa layQ (by decide) rfl), (zAa layR (by decide) rfl), (zAa layR (by decide) rfl), (zAa layR (by decide) rfl), tv⟩ (.fn _ _ _ _ _ _ _ (.cons _ _ _ _ (.ptr _ _ _ rfl) (.cons _ _ _ _ (.ptr _ _ _ rfl) .nil)) .nil .nil)
 rintro ⟨i, ns, at'⟩ f ⟨hi, hql, hm⟩
 have hi : i <= numAt B 8 2 := hi
 have hql : ns.length = i := hql
 have hm : mrQ B (numAt B 4 2) ((q.map (Sum.inl (β := RcX)) ++ an.map (Sum.inr (α := QuX))) ++ ns.map .inr) at' := hm
 have hnn : numAt B 8 2 < 65536 := zKb B 8
 have hpl : ((q.map (Sum.inl (β := RcX)) ++ an.map (Sum.inr (α := QuX)))).length = numAt B 4 2 + numAt B 6 2 := by simp only [aB, aT]; omega
 refine zAt tbRm2 [] 0 _ none mixed _ _ _ ?_
 refine ifK (fun h1 => ?_) (fun h1 => ?_)
 ·have hlt : i < numAt B 8 2 := by have h1 : ((i : Nat) : Int) < ((numAt B 8 2 : Nat) : Int) := oT h1; omega
  refine eI (B, at') (aI ⟨rfl, hne, by show B.length <= _; omega⟩ ?_)
  rintro ⟨x, nx, e, p⟩ hQ
  have hQ : recQ B at' (rcT (x, nx, e, p)) := hQ
  have hpl2 : ((q.map (Sum.inl (β := RcX)) ++ an.map (Sum.inr (α := QuX))) ++ ns.map (Sum.inr (α := QuX))).length = numAt B 4 2 + numAt B 6 2 + i := by rw [aB, hpl, aT, hql]
  refine ifK (fun h2 => ?_) (fun h2 => ?_)
  ·have he : e ≠ 0 := by have h2 : (e != 0) = true := h2; simpa using h2
   have hb : mrBad B (numAt B 4 2) ((q.map (Sum.inl (β := RcX)) ++ an.map (Sum.inr (α := QuX))) ++ ns.map .inr) at' e p := .inr ⟨by rw [hpl2]; omega, x, nx, hQ⟩
   have ht : ((q.map (Sum.inl (β := RcX)) ++ an.map (Sum.inr (α := QuX))) ++ ns.map (Sum.inr (α := QuX))).length < totB B := by rw [hpl2]; unfold totB; omega
   cases q with
   | nil =>
    cases an with
    | nil =>
     cases ns with
     | nil =>
      refine aI (by kernel_rfl) ?_
      refine aI rfl (zAk (q := ([] : List QuX)) (an := ([] : List RcX)) (ns := ([] : List RcX)) (ar := ([] : List RcX)) rfl rfl rfl rfl rfl rfl rfl rfl rfl rfl rfl (fun f => ?_))
      refine aI rfl (zAs (q := ([] : List QuX)) (an := ([] : List RcX)) (ns := ([] : List RcX)) (ar := ([] : List RcX)) rfl rfl rfl rfl rfl rfl rfl rfl rfl rfl rfl (fun f => ?_))
      refine Eq.mpr (zBg e he _ _ _ _ _ _ p _ f) ?_
      exact zAf (.fault ⟨g2, g1⟩ hm ht hb he)
     | cons ns0 nss =>
      refine aI (by kernel_rfl) ?_
      refine aI rfl (zAk (q := ([] : List QuX)) (an := ([] : List RcX)) (ns := (ns0 :: nss)) (ar := ([] : List RcX)) rfl rfl rfl rfl rfl rfl rfl rfl rfl rfl rfl (fun f => ?_))
      refine aI rfl (zAs (q := ([] : List QuX)) (an := ([] : List RcX)) (ns := (ns0 :: nss)) (ar := ([] : List RcX)) rfl rfl rfl rfl rfl rfl rfl rfl rfl rfl rfl (fun f => ?_))
      refine Eq.mpr (zBg e he _ _ _ _ _ _ p _ f) ?_
      exact zAf (.fault ⟨g2, g1⟩ hm ht hb he)
    | cons an0 ans =>
     cases ns with
     | nil =>
      refine aI (by kernel_rfl) ?_
      refine aI rfl (zAk (q := ([] : List QuX)) (an := (an0 :: ans)) (ns := ([] : List RcX)) (ar := ([] : List RcX)) rfl rfl rfl rfl rfl rfl rfl rfl rfl rfl rfl (fun f => ?_))
      refine aI rfl (zAs (q := ([] : List QuX)) (an := (an0 :: ans)) (ns := ([] : List RcX)) (ar := ([] : List RcX)) rfl rfl rfl rfl rfl rfl rfl rfl rfl rfl rfl (fun f => ?_))
      refine Eq.mpr (zBg e he _ _ _ _ _ _ p _ f) ?_
      exact zAf (.fault ⟨g2, g1⟩ hm ht hb he)
     | cons ns0 nss =>
      refine aI (by kernel_rfl) ?_
      refine aI rfl (zAk (q := ([] : List QuX)) (an := (an0 :: ans)) (ns := (ns0 :: nss)) (ar := ([] : List RcX)) rfl rfl rfl rfl rfl rfl rfl rfl rfl rfl rfl (fun f => ?_))
      refine aI rfl (zAs (q := ([] : List QuX)) (an := (an0 :: ans)) (ns := (ns0 :: nss)) (ar := ([] : List RcX)) rfl rfl rfl rfl rfl rfl rfl rfl rfl rfl rfl (fun f => ?_))
      refine Eq.mpr (zBg e he _ _ _ _ _ _ p _ f) ?_
      exact zAf (.fault ⟨g2, g1⟩ hm ht hb he)
   | cons q0 qs =>
    cases an with
    | nil =>
     cases ns with
     | nil =>
      refine aI (by kernel_rfl) ?_
      refine aI rfl (zAk (q := (q0 :: qs)) (an := ([] : List RcX)) (ns := ([] : List RcX)) (ar := ([] : List RcX)) rfl rfl rfl rfl rfl rfl rfl rfl rfl rfl rfl (fun f => ?_))
      refine aI rfl (zAs (q := (q0 :: qs)) (an := ([] : List RcX)) (ns := ([] : List RcX)) (ar := ([] : List RcX)) rfl rfl rfl rfl rfl rfl rfl rfl rfl rfl rfl (fun f => ?_))
      refine Eq.mpr (zBg e he _ _ _ _ _ _ p _ f) ?_
      exact zAf (.fault ⟨g2, g1⟩ hm ht hb he)
     | cons ns0 nss =>
      refine aI (by kernel_rfl) ?_
      refine aI rfl (zAk (q := (q0 :: qs)) (an := ([] : List RcX)) (ns := (ns0 :: nss)) (ar := ([] : List RcX)) rfl rfl rfl rfl rfl rfl rfl rfl rfl rfl rfl (fun f => ?_))
      refine aI rfl (zAs (q := (q0 :: qs)) (an := ([] : List RcX)) (ns := (ns0 :: nss)) (ar := ([] : List RcX)) rfl rfl rfl rfl rfl rfl rfl rfl rfl rfl rfl (fun f => ?_))
      refine Eq.mpr (zBg e he _ _ _ _ _ _ p _ f) ?_
      exact zAf (.fault ⟨g2, g1⟩ hm ht hb he)
    | cons an0 ans =>
     cases ns with
     | nil =>
      refine aI (by kernel_rfl) ?_
      refine aI rfl (zAk (q := (q0 :: qs)) (an := (an0 :: ans)) (ns := ([] : List RcX)) (ar := ([] : List RcX)) rfl rfl rfl rfl rfl rfl rfl rfl rfl rfl rfl (fun f => ?_))
      refine aI rfl (zAs (q := (q0 :: qs)) (an := (an0 :: ans)) (ns := ([] : List RcX)) (ar := ([] : List RcX)) rfl rfl rfl rfl rfl rfl rfl rfl rfl rfl rfl (fun f => ?_))
      refine Eq.mpr (zBg e he _ _ _ _ _ _ p _ f) ?_
      exact zAf (.fault ⟨g2, g1⟩ hm ht hb he)
     | cons ns0 nss =>
      refine aI (by kernel_rfl) ?_
      refine aI rfl (zAk (q := (q0 :: qs)) (an := (an0 :: ans)) (ns := (ns0 :: nss)) (ar := ([] : List RcX)) rfl rfl rfl rfl rfl rfl rfl rfl rfl rfl rfl (fun f => ?_))
      refine aI rfl (zAs (q := (q0 :: qs)) (an := (an0 :: ans)) (ns := (ns0 :: nss)) (ar := ([] : List RcX)) rfl rfl rfl rfl rfl rfl rfl rfl rfl rfl rfl (fun f => ?_))
      refine Eq.mpr (zBg e he _ _ _ _ _ _ p _ f) ?_
      exact zAf (.fault ⟨g2, g1⟩ hm ht hb he)
  have he : e = 0 := by have h2 : (e != 0) = false := h2; simpa using h2
  subst he
  have hm2 : mrQ B (numAt B 4 2) ((q.map (Sum.inl (β := RcX)) ++ an.map (Sum.inr (α := QuX))) ++ (ns ++ [x]).map .inr) nx := by
   rw [List.map_append, <- aN]
   exact .r hm (by rw [hpl2]; omega) hQ
  cases q with
  | nil =>
   cases an with
   | nil =>
    cases ns with
    | nil =>
     refine aI (by kernel_rfl) ?_
     refine ⟨(i + 1, [x], nx), ⟨hlt, by rw [<- hql]; rfl, hm2⟩, by show numAt B 8 2 - (i + 1) < numAt B 8 2 - i; omega, ?_⟩
     exact zAi [0, 1, 2, 3, 4, 10, 6] rfl rfl rfl (fun l e => by cases e) (by decide) (by decide) rfl rfl (zBo rfl) ⟨⟨_, rfl, zAh 8 rfl⟩, (sP rfl rfl), (sP rfl rfl), (sP rfl rfl), (sI rfl), (sP rfl rfl), ⟨_, rfl, .agg _ _ (.cons _ _ _ _ (.ptr _ _ _ rfl) (.cons _ _ _ _ (.ptr _ _ _ rfl) (.cons _ _ _ _ (.ptr _ _ _ rfl) .nil)))⟩, (sI rfl), (sI rfl), zAc rfl (by rw [wrapN (by omega) (by omega)]; omega), tv⟩ ⟨⟨by decide, _, rfl, by show RO _ _ (.cells [.int .i64 _, .int .i64 _, lsV 3 ([] : List QuX), lsV 4 ([] : List RcX), lsV 10 [x], lsV 6 ([] : List RcX)] _) _; refine zBq (b1 := 3) (b2 := 4) (b3 := 10) (b4 := 6) (c1 := 3) (c2 := 4) (c3 := 5) (c4 := 6) ?_ ?_ ?_ ?_ _ _ ([] : List QuX) ([] : List RcX) [x] ([] : List RcX) <;> rfl⟩, bpo rfl, bpo rfl, tv⟩ ⟨(zAa layQ (by decide) rfl), (zAa layR (by decide) rfl), (fun o ho => ⟨by decide, _, rfl, by cases ho; exact zAv rfl rfl⟩), (zAa layR (by decide) rfl), tv⟩ (.fn _ _ _ _ _ _ _ (.cons _ _ _ _ (.ptr _ _ _ rfl) (.cons _ _ _ _ (.ptr _ _ _ rfl) .nil)) .nil .nil)
    | cons y ys =>
     have hfl : (List.flatMap layR.g (y :: ys)).length = (ys.length + 1) * 5 := zAg layR.g 5 layR.len (y :: ys)
     have hyl : ys.length + 1 = i := hql
     refine aI (by kernel_rfl) ?_
     refine aI (by rw [hszR, hbyR]; simp only [bA, dT]; exact ⟨⟨⟨⟨⟨⟨rfl, rfl⟩, bL (by rw [hfl]; omega)⟩, rfl⟩, by omega⟩, by omega⟩, bL (by rw [hfl]; show (ys.length + 1) * 5 + 1 <= 0 + (ys.length + 1) * 5 + 5; omega)⟩) ?_
     have ec : List.take ((ys.length + 1) * 5) (List.flatMap layR.g (y :: ys)) ++ layR.g x = (y :: (ys ++ [x])).flatMap layR.g := by rw [aD (by rw [hfl]; omega), <- bC, List.flatMap_append]; simp
     refine ⟨(i + 1, y :: (ys ++ [x]), nx), ⟨hlt, by show (y :: (ys ++ [x])).length = _; simp; omega, hm2⟩, by show numAt B 8 2 - (i + 1) < numAt B 8 2 - i; omega, ?_⟩
     exact zAi [0, 1, 2, 3, 4, 10, 6] rfl rfl rfl (fun l e => by cases e) (by decide) (by decide) rfl rfl (zBo rfl) ⟨⟨_, rfl, zAh 8 rfl⟩, (sP rfl rfl), (sP rfl rfl), (sP rfl rfl), (sI rfl), (sP rfl rfl), ⟨_, rfl, .agg _ _ (.cons _ _ _ _ (.ptr _ _ _ rfl) (.cons _ _ _ _ (.ptr _ _ _ rfl) (.cons _ _ _ _ (.ptr _ _ _ rfl) .nil)))⟩, (sI rfl), (sI rfl), zAc rfl (by rw [wrapN (by omega) (by omega)]; omega), tv⟩ ⟨⟨by decide, _, rfl, by show RO _ _ (.cells [.int .i64 _, .int .i64 _, lsV 3 ([] : List QuX), lsV 4 ([] : List RcX), sq 10 (ys.length + 1 + 1) U, lsV 6 ([] : List RcX)] _) _; rw [zBu y ys x 10]; refine zBq (b1 := 3) (b2 := 4) (b3 := 10) (b4 := 6) (c1 := 3) (c2 := 4) (c3 := 5) (c4 := 6) ?_ ?_ ?_ ?_ _ _ ([] : List QuX) ([] : List RcX) (y :: (ys ++ [x])) ([] : List RcX) <;> rfl⟩, bpo rfl, bpo rfl, tv⟩ ⟨(zAa layQ (by decide) rfl), (zAa layR (by decide) rfl), (fun o ho => ⟨by decide, _, rfl, by cases ho; exact zAv (by rw [<- ec]; rfl) (zAe layR.g layR.plain _)⟩), (zAa layR (by decide) rfl), tv⟩ (.fn _ _ _ _ _ _ _ (.cons _ _ _ _ (.ptr _ _ _ rfl) (.cons _ _ _ _ (.ptr _ _ _ rfl) .nil)) .nil .nil)
   | cons an0 ans =>
    cases ns with
    | nil =>
     refine aI (by kernel_rfl) ?_
     refine ⟨(i + 1, [x], nx), ⟨hlt, by rw [<- hql]; rfl, hm2⟩, by show numAt B 8 2 - (i + 1) < numAt B 8 2 - i; omega, ?_⟩
     exact zAi [0, 1, 2, 3, 4, 10, 6] rfl rfl rfl (fun l e => by cases e) (by decide) (by decide) rfl rfl (zBo rfl) ⟨⟨_, rfl, zAh 8 rfl⟩, (sP rfl rfl), (sP rfl rfl), (sP rfl rfl), (sI rfl), (sP rfl rfl), ⟨_, rfl, .agg _ _ (.cons _ _ _ _ (.ptr _ _ _ rfl) (.cons _ _ _ _ (.ptr _ _ _ rfl) (.cons _ _ _ _ (.ptr _ _ _ rfl) .nil)))⟩, (sI rfl), (sI rfl), zAc rfl (by rw [wrapN (by omega) (by omega)]; omega), tv⟩ ⟨⟨by decide, _, rfl, by show RO _ _ (.cells [.int .i64 _, .int .i64 _, lsV 3 ([] : List QuX), lsV 4 (an0 :: ans), lsV 10 [x], lsV 6 ([] : List RcX)] _) _; refine zBq (b1 := 3) (b2 := 4) (b3 := 10) (b4 := 6) (c1 := 3) (c2 := 4) (c3 := 5) (c4 := 6) ?_ ?_ ?_ ?_ _ _ ([] : List QuX) (an0 :: ans) [x] ([] : List RcX) <;> rfl⟩, bpo rfl, bpo rfl, tv⟩ ⟨(zAa layQ (by decide) rfl), (zAa layR (by decide) rfl), (fun o ho => ⟨by decide, _, rfl, by cases ho; exact zAv rfl rfl⟩), (zAa layR (by decide) rfl), tv⟩ (.fn _ _ _ _ _ _ _ (.cons _ _ _ _ (.ptr _ _ _ rfl) (.cons _ _ _ _ (.ptr _ _ _ rfl) .nil)) .nil .nil)
    | cons y ys =>
     have hfl : (List.flatMap layR.g (y :: ys)).length = (ys.length + 1) * 5 := zAg layR.g 5 layR.len (y :: ys)
     have hyl : ys.length + 1 = i := hql
     refine aI (by kernel_rfl) ?_
     refine aI (by rw [hszR, hbyR]; simp only [bA, dT]; exact ⟨⟨⟨⟨⟨⟨rfl, rfl⟩, bL (by rw [hfl]; omega)⟩, rfl⟩, by omega⟩, by omega⟩, bL (by rw [hfl]; show (ys.length + 1) * 5 + 1 <= 0 + (ys.length + 1) * 5 + 5; omega)⟩) ?_
     have ec : List.take ((ys.length + 1) * 5) (List.flatMap layR.g (y :: ys)) ++ layR.g x = (y :: (ys ++ [x])).flatMap layR.g := by rw [aD (by rw [hfl]; omega), <- bC, List.flatMap_append]; simp
     refine ⟨(i + 1, y :: (ys ++ [x]), nx), ⟨hlt, by show (y :: (ys ++ [x])).length = _; simp; omega, hm2⟩, by show numAt B 8 2 - (i + 1) < numAt B 8 2 - i; omega, ?_⟩
     exact zAi [0, 1, 2, 3, 4, 10, 6] rfl rfl rfl (fun l e => by cases e) (by decide) (by decide) rfl rfl (zBo rfl) ⟨⟨_, rfl, zAh 8 rfl⟩, (sP rfl rfl), (sP rfl rfl), (sP rfl rfl), (sI rfl), (sP rfl rfl), ⟨_, rfl, .agg _ _ (.cons _ _ _ _ (.ptr _ _ _ rfl) (.cons _ _ _ _ (.ptr _ _ _ rfl) (.cons _ _ _ _ (.ptr _ _ _ rfl) .nil)))⟩, (sI rfl), (sI rfl), zAc rfl (by rw [wrapN (by omega) (by omega)]; omega), tv⟩ ⟨⟨by decide, _, rfl, by show RO _ _ (.cells [.int .i64 _, .int .i64 _, lsV 3 ([] : List QuX), lsV 4 (an0 :: ans), sq 10 (ys.length + 1 + 1) U, lsV 6 ([] : List RcX)] _) _; rw [zBu y ys x 10]; refine zBq (b1 := 3) (b2 := 4) (b3 := 10) (b4 := 6) (c1 := 3) (c2 := 4) (c3 := 5) (c4 := 6) ?_ ?_ ?_ ?_ _ _ ([] : List QuX) (an0 :: ans) (y :: (ys ++ [x])) ([] : List RcX) <;> rfl⟩, bpo rfl, bpo rfl, tv⟩ ⟨(zAa layQ (by decide) rfl), (zAa layR (by decide) rfl), (fun o ho => ⟨by decide, _, rfl, by cases ho; exact zAv (by rw [<- ec]; rfl) (zAe layR.g layR.plain _)⟩), (zAa layR (by decide) rfl), tv⟩ (.fn _ _ _ _ _ _ _ (.cons _ _ _ _ (.ptr _ _ _ rfl) (.cons _ _ _ _ (.ptr _ _ _ rfl) .nil)) .nil .nil)
  | cons q0 qs =>
   cases an with
   | nil =>
    cases ns with
    | nil =>
     refine aI (by kernel_rfl) ?_
     refine ⟨(i + 1, [x], nx), ⟨hlt, by rw [<- hql]; rfl, hm2⟩, by show numAt B 8 2 - (i + 1) < numAt B 8 2 - i; omega, ?_⟩
     exact zAi [0, 1, 2, 3, 4, 10, 6] rfl rfl rfl (fun l e => by cases e) (by decide) (by decide) rfl rfl (zBo rfl) ⟨⟨_, rfl, zAh 8 rfl⟩, (sP rfl rfl), (sP rfl rfl), (sP rfl rfl), (sI rfl), (sP rfl rfl), ⟨_, rfl, .agg _ _ (.cons _ _ _ _ (.ptr _ _ _ rfl) (.cons _ _ _ _ (.ptr _ _ _ rfl) (.cons _ _ _ _ (.ptr _ _ _ rfl) .nil)))⟩, (sI rfl), (sI rfl), zAc rfl (by rw [wrapN (by omega) (by omega)]; omega), tv⟩ ⟨⟨by decide, _, rfl, by show RO _ _ (.cells [.int .i64 _, .int .i64 _, lsV 3 (q0 :: qs), lsV 4 ([] : List RcX), lsV 10 [x], lsV 6 ([] : List RcX)] _) _; refine zBq (b1 := 3) (b2 := 4) (b3 := 10) (b4 := 6) (c1 := 3) (c2 := 4) (c3 := 5) (c4 := 6) ?_ ?_ ?_ ?_ _ _ (q0 :: qs) ([] : List RcX) [x] ([] : List RcX) <;> rfl⟩, bpo rfl, bpo rfl, tv⟩ ⟨(zAa layQ (by decide) rfl), (zAa layR (by decide) rfl), (fun o ho => ⟨by decide, _, rfl, by cases ho; exact zAv rfl rfl⟩), (zAa layR (by decide) rfl), tv⟩ (.fn _ _ _ _ _ _ _ (.cons _ _ _ _ (.ptr _ _ _ rfl) (.cons _ _ _ _ (.ptr _ _ _ rfl) .nil)) .nil .nil)
    | cons y ys =>
     have hfl : (List.flatMap layR.g (y :: ys)).length = (ys.length + 1) * 5 := zAg layR.g 5 layR.len (y :: ys)
     have hyl : ys.length + 1 = i := hql
     refine aI (by kernel_rfl) ?_
     refine aI (by rw [hszR, hbyR]; simp only [bA, dT]; exact ⟨⟨⟨⟨⟨⟨rfl, rfl⟩, bL (by rw [hfl]; omega)⟩, rfl⟩, by omega⟩, by omega⟩, bL (by rw [hfl]; show (ys.length + 1) * 5 + 1 <= 0 + (ys.length + 1) * 5 + 5; omega)⟩) ?_
     have ec : List.take ((ys.length + 1) * 5) (List.flatMap layR.g (y :: ys)) ++ layR.g x = (y :: (ys ++ [x])).flatMap layR.g := by rw [aD (by rw [hfl]; omega), <- bC, List.flatMap_append]; simp
     refine ⟨(i + 1, y :: (ys ++ [x]), nx), ⟨hlt, by show (y :: (ys ++ [x])).length = _; simp; omega, hm2⟩, by show numAt B 8 2 - (i + 1) < numAt B 8 2 - i; omega, ?_⟩
     exact zAi [0, 1, 2, 3, 4, 10, 6] rfl rfl rfl (fun l e => by cases e) (by decide) (by decide) rfl rfl (zBo rfl) ⟨⟨_, rfl, zAh 8 rfl⟩, (sP rfl rfl), (sP rfl rfl), (sP rfl rfl), (sI rfl), (sP rfl rfl), ⟨_, rfl, .agg _ _ (.cons _ _ _ _ (.ptr _ _ _ rfl) (.cons _ _ _ _ (.ptr _ _ _ rfl) (.cons _ _ _ _ (.ptr _ _ _ rfl) .nil)))⟩, (sI rfl), (sI rfl), zAc rfl (by rw [wrapN (by omega) (by omega)]; omega), tv⟩ ⟨⟨by decide, _, rfl, by show RO _ _ (.cells [.int .i64 _, .int .i64 _, lsV 3 (q0 :: qs), lsV 4 ([] : List RcX), sq 10 (ys.length + 1 + 1) U, lsV 6 ([] : List RcX)] _) _; rw [zBu y ys x 10]; refine zBq (b1 := 3) (b2 := 4) (b3 := 10) (b4 := 6) (c1 := 3) (c2 := 4) (c3 := 5) (c4 := 6) ?_ ?_ ?_ ?_ _ _ (q0 :: qs) ([] : List RcX) (y :: (ys ++ [x])) ([] : List RcX) <;> rfl⟩, bpo rfl, bpo rfl, tv⟩ ⟨(zAa layQ (by decide) rfl), (zAa layR (by decide) rfl), (fun o ho => ⟨by decide, _, rfl, by cases ho; exact zAv (by rw [<- ec]; rfl) (zAe layR.g layR.plain _)⟩), (zAa layR (by decide) rfl), tv⟩ (.fn _ _ _ _ _ _ _ (.cons _ _ _ _ (.ptr _ _ _ rfl) (.cons _ _ _ _ (.ptr _ _ _ rfl) .nil)) .nil .nil)
   | cons an0 ans =>
    cases ns with
    | nil =>
     refine aI (by kernel_rfl) ?_
     refine ⟨(i + 1, [x], nx), ⟨hlt, by rw [<- hql]; rfl, hm2⟩, by show numAt B 8 2 - (i + 1) < numAt B 8 2 - i; omega, ?_⟩
     exact zAi [0, 1, 2, 3, 4, 10, 6] rfl rfl rfl (fun l e => by cases e) (by decide) (by decide) rfl rfl (zBo rfl) ⟨⟨_, rfl, zAh 8 rfl⟩, (sP rfl rfl), (sP rfl rfl), (sP rfl rfl), (sI rfl), (sP rfl rfl), ⟨_, rfl, .agg _ _ (.cons _ _ _ _ (.ptr _ _ _ rfl) (.cons _ _ _ _ (.ptr _ _ _ rfl) (.cons _ _ _ _ (.ptr _ _ _ rfl) .nil)))⟩, (sI rfl), (sI rfl), zAc rfl (by rw [wrapN (by omega) (by omega)]; omega), tv⟩ ⟨⟨by decide, _, rfl, by show RO _ _ (.cells [.int .i64 _, .int .i64 _, lsV 3 (q0 :: qs), lsV 4 (an0 :: ans), lsV 10 [x], lsV 6 ([] : List RcX)] _) _; refine zBq (b1 := 3) (b2 := 4) (b3 := 10) (b4 := 6) (c1 := 3) (c2 := 4) (c3 := 5) (c4 := 6) ?_ ?_ ?_ ?_ _ _ (q0 :: qs) (an0 :: ans) [x] ([] : List RcX) <;> rfl⟩, bpo rfl, bpo rfl, tv⟩ ⟨(zAa layQ (by decide) rfl), (zAa layR (by decide) rfl), (fun o ho => ⟨by decide, _, rfl, by cases ho; exact zAv rfl rfl⟩), (zAa layR (by decide) rfl), tv⟩ (.fn _ _ _ _ _ _ _ (.cons _ _ _ _ (.ptr _ _ _ rfl) (.cons _ _ _ _ (.ptr _ _ _ rfl) .nil)) .nil .nil)
    | cons y ys =>
     have hfl : (List.flatMap layR.g (y :: ys)).length = (ys.length + 1) * 5 := zAg layR.g 5 layR.len (y :: ys)
     have hyl : ys.length + 1 = i := hql
     refine aI (by kernel_rfl) ?_
     refine aI (by rw [hszR, hbyR]; simp only [bA, dT]; exact ⟨⟨⟨⟨⟨⟨rfl, rfl⟩, bL (by rw [hfl]; omega)⟩, rfl⟩, by omega⟩, by omega⟩, bL (by rw [hfl]; show (ys.length + 1) * 5 + 1 <= 0 + (ys.length + 1) * 5 + 5; omega)⟩) ?_
     have ec : List.take ((ys.length + 1) * 5) (List.flatMap layR.g (y :: ys)) ++ layR.g x = (y :: (ys ++ [x])).flatMap layR.g := by rw [aD (by rw [hfl]; omega), <- bC, List.flatMap_append]; simp
     refine ⟨(i + 1, y :: (ys ++ [x]), nx), ⟨hlt, by show (y :: (ys ++ [x])).length = _; simp; omega, hm2⟩, by show numAt B 8 2 - (i + 1) < numAt B 8 2 - i; omega, ?_⟩
     exact zAi [0, 1, 2, 3, 4, 10, 6] rfl rfl rfl (fun l e => by cases e) (by decide) (by decide) rfl rfl (zBo rfl) ⟨⟨_, rfl, zAh 8 rfl⟩, (sP rfl rfl), (sP rfl rfl), (sP rfl rfl), (sI rfl), (sP rfl rfl), ⟨_, rfl, .agg _ _ (.cons _ _ _ _ (.ptr _ _ _ rfl) (.cons _ _ _ _ (.ptr _ _ _ rfl) (.cons _ _ _ _ (.ptr _ _ _ rfl) .nil)))⟩, (sI rfl), (sI rfl), zAc rfl (by rw [wrapN (by omega) (by omega)]; omega), tv⟩ ⟨⟨by decide, _, rfl, by show RO _ _ (.cells [.int .i64 _, .int .i64 _, lsV 3 (q0 :: qs), lsV 4 (an0 :: ans), sq 10 (ys.length + 1 + 1) U, lsV 6 ([] : List RcX)] _) _; rw [zBu y ys x 10]; refine zBq (b1 := 3) (b2 := 4) (b3 := 10) (b4 := 6) (c1 := 3) (c2 := 4) (c3 := 5) (c4 := 6) ?_ ?_ ?_ ?_ _ _ (q0 :: qs) (an0 :: ans) (y :: (ys ++ [x])) ([] : List RcX) <;> rfl⟩, bpo rfl, bpo rfl, tv⟩ ⟨(zAa layQ (by decide) rfl), (zAa layR (by decide) rfl), (fun o ho => ⟨by decide, _, rfl, by cases ho; exact zAv (by rw [<- ec]; rfl) (zAe layR.g layR.plain _)⟩), (zAa layR (by decide) rfl), tv⟩ (.fn _ _ _ _ _ _ _ (.cons _ _ _ _ (.ptr _ _ _ rfl) (.cons _ _ _ _ (.ptr _ _ _ rfl) .nil)) .nil .nil)
 have hiq : i = numAt B 8 2 := by have h1 : ¬ ((i : Nat) : Int) < ((numAt B 8 2 : Nat) : Int) := oF h1; omega
 subst hiq
 have hlns : ns.length = numAt B 8 2 := hql
 refine aI rfl (zAj (zAi [0, 1, 2, 3, 4, 5, 6] rfl rfl rfl (fun l e => by cases e) (by decide) (by decide) rfl rfl (zBo rfl) (d := 7) (d2 := 3) (lv := [(0, trB B), (2, pt 0), (3, pt 1), (4, pt 2), (5, .int .i64 at'), (73, .agg #[.pointer (some ⟨0, 3, none⟩), .pointer (some ⟨0, 4, none⟩), .pointer (some ⟨0, 5, none⟩)]), (74, .int .i64 1)]) (bs := [(0, .cells [.int .i64 (numAt B 0 2 : Nat), .int .i64 (numAt B 2 2 : Nat), lsV 3 q, lsV 4 an, lsV 5 ns, lsV 6 ([] : List RcX)] 25), (1, .cells [.int .i64 0, .int .i64 0] 48), (2, .cells [.int .i64 (numAt B 0 2 : Nat), .int .i64 (numAt B 2 2 : Nat), .int .i64 (numAt B 4 2 : Nat), .int .i64 (numAt B 6 2 : Nat), .int .i64 (numAt B 8 2 : Nat), .int .i64 (numAt B 10 2 : Nat)] 85)]) (bo := [(3, lsO layQ q), (4, lsO layR an), (5, lsO layR ns), (6, lsO layR ([] : List RcX))]) (W := []) (m := 7) (df := [.call 60 [pt 1, pt 0] []]) ⟨⟨_, rfl, zAh 8 rfl⟩, (sP rfl rfl), (sP rfl rfl), (sP rfl rfl), (sI rfl), ⟨_, rfl, .agg _ _ (.cons _ _ _ _ (.ptr _ _ _ rfl) (.cons _ _ _ _ (.ptr _ _ _ rfl) (.cons _ _ _ _ (.ptr _ _ _ rfl) .nil)))⟩, (sI rfl), tv⟩ ⟨⟨by decide, _, rfl, by refine zBq (b1 := 3) (b2 := 4) (b3 := 5) (b4 := 6) (c1 := 3) (c2 := 4) (c3 := 5) (c4 := 6) ?_ ?_ ?_ ?_ _ _ q an ns ([] : List RcX) <;> rfl⟩, bpo rfl, bpo rfl, tv⟩ ⟨(zAa layQ (by decide) rfl), (zAa layR (by decide) rfl), (zAa layR (by decide) rfl), (zAa layR (by decide) rfl), tv⟩ (.fn _ _ _ _ _ _ _ (.cons _ _ _ _ (.ptr _ _ _ rfl) (.cons _ _ _ _ (.ptr _ _ _ rfl) .nil)) .nil .nil)) (fun f => ?_))
 refine LW.round ?_
 refine zAt tbRm2 [] 0 _ none mixed _ _ _ ?_
 refine zAr (fun (x : Nat × List RcX × Int) => rmS2 B (numAt B 10 2) 2 q an ns x.2.1 x.2.2 x.1) (fun x => numAt B 10 2 - x.1) (fun x => x.1 <= numAt B 10 2 /\ x.2.1.length = x.1 /\ mrQ B (numAt B 4 2) (((q.map (Sum.inl (β := RcX)) ++ an.map (Sum.inr (α := QuX))) ++ ns.map (Sum.inr (α := QuX))) ++ x.2.1.map .inr) x.2.2) (0, [], at') ⟨aH _, rfl, by rw [List.map_nil, aF]; exact hm⟩ ?_ ?_
 ·exact zAi [0, 1, 2, 3, 4, 5, 6] rfl rfl rfl (fun l e => by cases e) (by decide) (by decide) rfl rfl (zBo rfl) ⟨⟨_, rfl, zAh 8 rfl⟩, (sP rfl rfl), (sP rfl rfl), (sP rfl rfl), (sI rfl), (sP rfl rfl), ⟨_, rfl, .agg _ _ (.cons _ _ _ _ (.ptr _ _ _ rfl) (.cons _ _ _ _ (.ptr _ _ _ rfl) (.cons _ _ _ _ (.ptr _ _ _ rfl) .nil)))⟩, (sI rfl), (sI rfl), (sI rfl), tv⟩ ⟨⟨by decide, _, rfl, by refine zBq (b1 := 3) (b2 := 4) (b3 := 5) (b4 := 6) (c1 := 3) (c2 := 4) (c3 := 5) (c4 := 6) ?_ ?_ ?_ ?_ _ _ q an ns ([] : List RcX) <;> rfl⟩, bpo rfl, bpo rfl, tv⟩ ⟨(zAa layQ (by decide) rfl), (zAa layR (by decide) rfl), (zAa layR (by decide) rfl), (zAa layR (by decide) rfl), tv⟩ (.fn _ _ _ _ _ _ _ (.cons _ _ _ _ (.ptr _ _ _ rfl) (.cons _ _ _ _ (.ptr _ _ _ rfl) .nil)) .nil .nil)
 rintro ⟨i, ar, at'⟩ f ⟨hi, hql, hm⟩
 have hi : i <= numAt B 10 2 := hi
 have hql : ar.length = i := hql
 have hm : mrQ B (numAt B 4 2) (((q.map (Sum.inl (β := RcX)) ++ an.map (Sum.inr (α := QuX))) ++ ns.map (Sum.inr (α := QuX))) ++ ar.map .inr) at' := hm
 have hnn : numAt B 10 2 < 65536 := zKb B 10
 have hpl : (((q.map (Sum.inl (β := RcX)) ++ an.map (Sum.inr (α := QuX))) ++ ns.map (Sum.inr (α := QuX)))).length = numAt B 4 2 + numAt B 6 2 + numAt B 8 2 := by simp only [aB, aT]; omega
 refine zAt tbRm2 [] 0 _ none mixed _ _ _ ?_
 refine ifK (fun h1 => ?_) (fun h1 => ?_)
 ·have hlt : i < numAt B 10 2 := by have h1 : ((i : Nat) : Int) < ((numAt B 10 2 : Nat) : Int) := oT h1; omega
  refine eI (B, at') (aI ⟨rfl, hne, by show B.length <= _; omega⟩ ?_)
  rintro ⟨x, nx, e, p⟩ hQ
  have hQ : recQ B at' (rcT (x, nx, e, p)) := hQ
  have hpl2 : (((q.map (Sum.inl (β := RcX)) ++ an.map (Sum.inr (α := QuX))) ++ ns.map (Sum.inr (α := QuX))) ++ ar.map (Sum.inr (α := QuX))).length = numAt B 4 2 + numAt B 6 2 + numAt B 8 2 + i := by rw [aB, hpl, aT, hql]
  refine ifK (fun h2 => ?_) (fun h2 => ?_)
  ·have he : e ≠ 0 := by have h2 : (e != 0) = true := h2; simpa using h2
   have hb : mrBad B (numAt B 4 2) (((q.map (Sum.inl (β := RcX)) ++ an.map (Sum.inr (α := QuX))) ++ ns.map (Sum.inr (α := QuX))) ++ ar.map .inr) at' e p := .inr ⟨by rw [hpl2]; omega, x, nx, hQ⟩
   have ht : (((q.map (Sum.inl (β := RcX)) ++ an.map (Sum.inr (α := QuX))) ++ ns.map (Sum.inr (α := QuX))) ++ ar.map (Sum.inr (α := QuX))).length < totB B := by rw [hpl2]; unfold totB; omega
   cases q with
   | nil =>
    cases an with
    | nil =>
     cases ns with
     | nil =>
      cases ar with
      | nil =>
       refine aI (by kernel_rfl) ?_
       refine aI rfl (zAk (q := ([] : List QuX)) (an := ([] : List RcX)) (ns := ([] : List RcX)) (ar := ([] : List RcX)) rfl rfl rfl rfl rfl rfl rfl rfl rfl rfl rfl (fun f => ?_))
       refine aI rfl (zAs (q := ([] : List QuX)) (an := ([] : List RcX)) (ns := ([] : List RcX)) (ar := ([] : List RcX)) rfl rfl rfl rfl rfl rfl rfl rfl rfl rfl rfl (fun f => ?_))
       refine Eq.mpr (zBg e he _ _ _ _ _ _ p _ f) ?_
       exact zAf (.fault ⟨g2, g1⟩ hm ht hb he)
      | cons ar0 ars =>
       refine aI (by kernel_rfl) ?_
       refine aI rfl (zAk (q := ([] : List QuX)) (an := ([] : List RcX)) (ns := ([] : List RcX)) (ar := (ar0 :: ars)) rfl rfl rfl rfl rfl rfl rfl rfl rfl rfl rfl (fun f => ?_))
       refine aI rfl (zAs (q := ([] : List QuX)) (an := ([] : List RcX)) (ns := ([] : List RcX)) (ar := (ar0 :: ars)) rfl rfl rfl rfl rfl rfl rfl rfl rfl rfl rfl (fun f => ?_))
       refine Eq.mpr (zBg e he _ _ _ _ _ _ p _ f) ?_
       exact zAf (.fault ⟨g2, g1⟩ hm ht hb he)
     | cons ns0 nss =>
      cases ar with
      | nil =>
       refine aI (by kernel_rfl) ?_
       refine aI rfl (zAk (q := ([] : List QuX)) (an := ([] : List RcX)) (ns := (ns0 :: nss)) (ar := ([] : List RcX)) rfl rfl rfl rfl rfl rfl rfl rfl rfl rfl rfl (fun f => ?_))
       refine aI rfl (zAs (q := ([] : List QuX)) (an := ([] : List RcX)) (ns := (ns0 :: nss)) (ar := ([] : List RcX)) rfl rfl rfl rfl rfl rfl rfl rfl rfl rfl rfl (fun f => ?_))
       refine Eq.mpr (zBg e he _ _ _ _ _ _ p _ f) ?_
       exact zAf (.fault ⟨g2, g1⟩ hm ht hb he)
      | cons ar0 ars =>
       refine aI (by kernel_rfl) ?_
       refine aI rfl (zAk (q := ([] : List QuX)) (an := ([] : List RcX)) (ns := (ns0 :: nss)) (ar := (ar0 :: ars)) rfl rfl rfl rfl rfl rfl rfl rfl rfl rfl rfl (fun f => ?_))
       refine aI rfl (zAs (q := ([] : List QuX)) (an := ([] : List RcX)) (ns := (ns0 :: nss)) (ar := (ar0 :: ars)) rfl rfl rfl rfl rfl rfl rfl rfl rfl rfl rfl (fun f => ?_))
       refine Eq.mpr (zBg e he _ _ _ _ _ _ p _ f) ?_
       exact zAf (.fault ⟨g2, g1⟩ hm ht hb he)
    | cons an0 ans =>
     cases ns with
     | nil =>
      cases ar with
      | nil =>
       refine aI (by kernel_rfl) ?_
       refine aI rfl (zAk (q := ([] : List QuX)) (an := (an0 :: ans)) (ns := ([] : List RcX)) (ar := ([] : List RcX)) rfl rfl rfl rfl rfl rfl rfl rfl rfl rfl rfl (fun f => ?_))
       refine aI rfl (zAs (q := ([] : List QuX)) (an := (an0 :: ans)) (ns := ([] : List RcX)) (ar := ([] : List RcX)) rfl rfl rfl rfl rfl rfl rfl rfl rfl rfl rfl (fun f => ?_))
       refine Eq.mpr (zBg e he _ _ _ _ _ _ p _ f) ?_
       exact zAf (.fault ⟨g2, g1⟩ hm ht hb he)
      | cons ar0 ars =>
       refine aI (by kernel_rfl) ?_
       refine aI rfl (zAk (q := ([] : List QuX)) (an := (an0 :: ans)) (ns := ([] : List RcX)) (ar := (ar0 :: ars)) rfl rfl rfl rfl rfl rfl rfl rfl rfl rfl rfl (fun f => ?_))
       refine aI rfl (zAs (q := ([] : List QuX)) (an := (an0 :: ans)) (ns := ([] : List RcX)) (ar := (ar0 :: ars)) rfl rfl rfl rfl rfl rfl rfl rfl rfl rfl rfl (fun f => ?_))
       refine Eq.mpr (zBg e he _ _ _ _ _ _ p _ f) ?_
       exact zAf (.fault ⟨g2, g1⟩ hm ht hb he)
     | cons ns0 nss =>
      cases ar with
      | nil =>
       refine aI (by kernel_rfl) ?_
       refine aI rfl (zAk (q := ([] : List QuX)) (an := (an0 :: ans)) (ns := (ns0 :: nss)) (ar := ([] : List RcX)) rfl rfl rfl rfl rfl rfl rfl rfl rfl rfl rfl (fun f => ?_))
       refine aI rfl (zAs (q := ([] : List QuX)) (an := (an0 :: ans)) (ns := (ns0 :: nss)) (ar := ([] : List RcX)) rfl rfl rfl rfl rfl rfl rfl rfl rfl rfl rfl (fun f => ?_))
       refine Eq.mpr (zBg e he _ _ _ _ _ _ p _ f) ?_
       exact zAf (.fault ⟨g2, g1⟩ hm ht hb he)
      | cons ar0 ars =>
       refine aI (by kernel_rfl) ?_
       refine aI rfl (zAk (q := ([] : List QuX)) (an := (an0 :: ans)) (ns := (ns0 :: nss)) (ar := (ar0 :: ars)) rfl rfl rfl rfl rfl rfl rfl rfl rfl rfl rfl (fun f => ?_))
       refine aI rfl (zAs (q := ([] : List QuX)) (an := (an0 :: ans)) (ns := (ns0 :: nss)) (ar := (ar0 :: ars)) rfl rfl rfl rfl rfl rfl rfl rfl rfl rfl rfl (fun f => ?_))
       refine Eq.mpr (zBg e he _ _ _ _ _ _ p _ f) ?_
       exact zAf (.fault ⟨g2, g1⟩ hm ht hb he)
   | cons q0 qs =>
    cases an with
    | nil =>
     cases ns with
     | nil =>
      cases ar with
      | nil =>
       refine aI (by kernel_rfl) ?_
       refine aI rfl (zAk (q := (q0 :: qs)) (an := ([] : List RcX)) (ns := ([] : List RcX)) (ar := ([] : List RcX)) rfl rfl rfl rfl rfl rfl rfl rfl rfl rfl rfl (fun f => ?_))
       refine aI rfl (zAs (q := (q0 :: qs)) (an := ([] : List RcX)) (ns := ([] : List RcX)) (ar := ([] : List RcX)) rfl rfl rfl rfl rfl rfl rfl rfl rfl rfl rfl (fun f => ?_))
       refine Eq.mpr (zBg e he _ _ _ _ _ _ p _ f) ?_
       exact zAf (.fault ⟨g2, g1⟩ hm ht hb he)
      | cons ar0 ars =>
       refine aI (by kernel_rfl) ?_
       refine aI rfl (zAk (q := (q0 :: qs)) (an := ([] : List RcX)) (ns := ([] : List RcX)) (ar := (ar0 :: ars)) rfl rfl rfl rfl rfl rfl rfl rfl rfl rfl rfl (fun f => ?_))
       refine aI rfl (zAs (q := (q0 :: qs)) (an := ([] : List RcX)) (ns := ([] : List RcX)) (ar := (ar0 :: ars)) rfl rfl rfl rfl rfl rfl rfl rfl rfl rfl rfl (fun f => ?_))
       refine Eq.mpr (zBg e he _ _ _ _ _ _ p _ f) ?_
       exact zAf (.fault ⟨g2, g1⟩ hm ht hb he)
     | cons ns0 nss =>
      cases ar with
      | nil =>
       refine aI (by kernel_rfl) ?_
       refine aI rfl (zAk (q := (q0 :: qs)) (an := ([] : List RcX)) (ns := (ns0 :: nss)) (ar := ([] : List RcX)) rfl rfl rfl rfl rfl rfl rfl rfl rfl rfl rfl (fun f => ?_))
       refine aI rfl (zAs (q := (q0 :: qs)) (an := ([] : List RcX)) (ns := (ns0 :: nss)) (ar := ([] : List RcX)) rfl rfl rfl rfl rfl rfl rfl rfl rfl rfl rfl (fun f => ?_))
       refine Eq.mpr (zBg e he _ _ _ _ _ _ p _ f) ?_
       exact zAf (.fault ⟨g2, g1⟩ hm ht hb he)
      | cons ar0 ars =>
       refine aI (by kernel_rfl) ?_
       refine aI rfl (zAk (q := (q0 :: qs)) (an := ([] : List RcX)) (ns := (ns0 :: nss)) (ar := (ar0 :: ars)) rfl rfl rfl rfl rfl rfl rfl rfl rfl rfl rfl (fun f => ?_))
       refine aI rfl (zAs (q := (q0 :: qs)) (an := ([] : List RcX)) (ns := (ns0 :: nss)) (ar := (ar0 :: ars)) rfl rfl rfl rfl rfl rfl rfl rfl rfl rfl rfl (fun f => ?_))
       refine Eq.mpr (zBg e he _ _ _ _ _ _ p _ f) ?_
       exact zAf (.fault ⟨g2, g1⟩ hm ht hb he)
    | cons an0 ans =>
     cases ns with
     | nil =>
      cases ar with
      | nil =>
       refine aI (by kernel_rfl) ?_
       refine aI rfl (zAk (q := (q0 :: qs)) (an := (an0 :: ans)) (ns := ([] : List RcX)) (ar := ([] : List RcX)) rfl rfl rfl rfl rfl rfl rfl rfl rfl rfl rfl (fun f => ?_))
       refine aI rfl (zAs (q := (q0 :: qs)) (an := (an0 :: ans)) (ns := ([] : List RcX)) (ar := ([] : List RcX)) rfl rfl rfl rfl rfl rfl rfl rfl rfl rfl rfl (fun f => ?_))
       refine Eq.mpr (zBg e he _ _ _ _ _ _ p _ f) ?_
       exact zAf (.fault ⟨g2, g1⟩ hm ht hb he)
      | cons ar0 ars =>
       refine aI (by kernel_rfl) ?_
       refine aI rfl (zAk (q := (q0 :: qs)) (an := (an0 :: ans)) (ns := ([] : List RcX)) (ar := (ar0 :: ars)) rfl rfl rfl rfl rfl rfl rfl rfl rfl rfl rfl (fun f => ?_))
       refine aI rfl (zAs (q := (q0 :: qs)) (an := (an0 :: ans)) (ns := ([] : List RcX)) (ar := (ar0 :: ars)) rfl rfl rfl rfl rfl rfl rfl rfl rfl rfl rfl (fun f => ?_))
       refine Eq.mpr (zBg e he _ _ _ _ _ _ p _ f) ?_
       exact zAf (.fault ⟨g2, g1⟩ hm ht hb he)
     | cons ns0 nss =>
      cases ar with
      | nil =>
       refine aI (by kernel_rfl) ?_
       refine aI rfl (zAk (q := (q0 :: qs)) (an := (an0 :: ans)) (ns := (ns0 :: nss)) (ar := ([] : List RcX)) rfl rfl rfl rfl rfl rfl rfl rfl rfl rfl rfl (fun f => ?_))
       refine aI rfl (zAs (q := (q0 :: qs)) (an := (an0 :: ans)) (ns := (ns0 :: nss)) (ar := ([] : List RcX)) rfl rfl rfl rfl rfl rfl rfl rfl rfl rfl rfl (fun f => ?_))
       refine Eq.mpr (zBg e he _ _ _ _ _ _ p _ f) ?_
       exact zAf (.fault ⟨g2, g1⟩ hm ht hb he)
      | cons ar0 ars =>
       refine aI (by kernel_rfl) ?_
       refine aI rfl (zAk (q := (q0 :: qs)) (an := (an0 :: ans)) (ns := (ns0 :: nss)) (ar := (ar0 :: ars)) rfl rfl rfl rfl rfl rfl rfl rfl rfl rfl rfl (fun f => ?_))
       refine aI rfl (zAs (q := (q0 :: qs)) (an := (an0 :: ans)) (ns := (ns0 :: nss)) (ar := (ar0 :: ars)) rfl rfl rfl rfl rfl rfl rfl rfl rfl rfl rfl (fun f => ?_))
       refine Eq.mpr (zBg e he _ _ _ _ _ _ p _ f) ?_
       exact zAf (.fault ⟨g2, g1⟩ hm ht hb he)
  have he : e = 0 := by have h2 : (e != 0) = false := h2; simpa using h2
  subst he
  have hm2 : mrQ B (numAt B 4 2) (((q.map (Sum.inl (β := RcX)) ++ an.map (Sum.inr (α := QuX))) ++ ns.map (Sum.inr (α := QuX))) ++ (ar ++ [x]).map .inr) nx := by
   rw [List.map_append, <- aN]
   exact .r hm (by rw [hpl2]; omega) hQ
  cases q with
  | nil =>
   cases an with
   | nil =>
    cases ns with
    | nil =>
     cases ar with
     | nil =>
      refine aI (by kernel_rfl) ?_
      refine ⟨(i + 1, [x], nx), ⟨hlt, by rw [<- hql]; rfl, hm2⟩, by show numAt B 10 2 - (i + 1) < numAt B 10 2 - i; omega, ?_⟩
      exact zAi [0, 1, 2, 3, 4, 5, 10] rfl rfl rfl (fun l e => by cases e) (by decide) (by decide) rfl rfl (zBo rfl) ⟨⟨_, rfl, zAh 8 rfl⟩, (sP rfl rfl), (sP rfl rfl), (sP rfl rfl), (sI rfl), (sP rfl rfl), ⟨_, rfl, .agg _ _ (.cons _ _ _ _ (.ptr _ _ _ rfl) (.cons _ _ _ _ (.ptr _ _ _ rfl) (.cons _ _ _ _ (.ptr _ _ _ rfl) .nil)))⟩, (sI rfl), (sI rfl), zAc rfl (by rw [wrapN (by omega) (by omega)]; omega), tv⟩ ⟨⟨by decide, _, rfl, by show RO _ _ (.cells [.int .i64 _, .int .i64 _, lsV 3 ([] : List QuX), lsV 4 ([] : List RcX), lsV 5 ([] : List RcX), lsV 10 [x]] _) _; refine zBq (b1 := 3) (b2 := 4) (b3 := 5) (b4 := 10) (c1 := 3) (c2 := 4) (c3 := 5) (c4 := 6) ?_ ?_ ?_ ?_ _ _ ([] : List QuX) ([] : List RcX) ([] : List RcX) [x] <;> rfl⟩, bpo rfl, bpo rfl, tv⟩ ⟨(zAa layQ (by decide) rfl), (zAa layR (by decide) rfl), (zAa layR (by decide) rfl), (fun o ho => ⟨by decide, _, rfl, by cases ho; exact zAv rfl rfl⟩), tv⟩ (.fn _ _ _ _ _ _ _ (.cons _ _ _ _ (.ptr _ _ _ rfl) (.cons _ _ _ _ (.ptr _ _ _ rfl) .nil)) .nil .nil)
     | cons y ys =>
      have hfl : (List.flatMap layR.g (y :: ys)).length = (ys.length + 1) * 5 := zAg layR.g 5 layR.len (y :: ys)
      have hyl : ys.length + 1 = i := hql
      refine aI (by kernel_rfl) ?_
      refine aI (by rw [hszR, hbyR]; simp only [bA, dT]; exact ⟨⟨⟨⟨⟨⟨rfl, rfl⟩, bL (by rw [hfl]; omega)⟩, rfl⟩, by omega⟩, by omega⟩, bL (by rw [hfl]; show (ys.length + 1) * 5 + 1 <= 0 + (ys.length + 1) * 5 + 5; omega)⟩) ?_
      have ec : List.take ((ys.length + 1) * 5) (List.flatMap layR.g (y :: ys)) ++ layR.g x = (y :: (ys ++ [x])).flatMap layR.g := by rw [aD (by rw [hfl]; omega), <- bC, List.flatMap_append]; simp
      refine ⟨(i + 1, y :: (ys ++ [x]), nx), ⟨hlt, by show (y :: (ys ++ [x])).length = _; simp; omega, hm2⟩, by show numAt B 10 2 - (i + 1) < numAt B 10 2 - i; omega, ?_⟩
      exact zAi [0, 1, 2, 3, 4, 5, 10] rfl rfl rfl (fun l e => by cases e) (by decide) (by decide) rfl rfl (zBo rfl) ⟨⟨_, rfl, zAh 8 rfl⟩, (sP rfl rfl), (sP rfl rfl), (sP rfl rfl), (sI rfl), (sP rfl rfl), ⟨_, rfl, .agg _ _ (.cons _ _ _ _ (.ptr _ _ _ rfl) (.cons _ _ _ _ (.ptr _ _ _ rfl) (.cons _ _ _ _ (.ptr _ _ _ rfl) .nil)))⟩, (sI rfl), (sI rfl), zAc rfl (by rw [wrapN (by omega) (by omega)]; omega), tv⟩ ⟨⟨by decide, _, rfl, by show RO _ _ (.cells [.int .i64 _, .int .i64 _, lsV 3 ([] : List QuX), lsV 4 ([] : List RcX), lsV 5 ([] : List RcX), sq 10 (ys.length + 1 + 1) U] _) _; rw [zBu y ys x 10]; refine zBq (b1 := 3) (b2 := 4) (b3 := 5) (b4 := 10) (c1 := 3) (c2 := 4) (c3 := 5) (c4 := 6) ?_ ?_ ?_ ?_ _ _ ([] : List QuX) ([] : List RcX) ([] : List RcX) (y :: (ys ++ [x])) <;> rfl⟩, bpo rfl, bpo rfl, tv⟩ ⟨(zAa layQ (by decide) rfl), (zAa layR (by decide) rfl), (zAa layR (by decide) rfl), (fun o ho => ⟨by decide, _, rfl, by cases ho; exact zAv (by rw [<- ec]; rfl) (zAe layR.g layR.plain _)⟩), tv⟩ (.fn _ _ _ _ _ _ _ (.cons _ _ _ _ (.ptr _ _ _ rfl) (.cons _ _ _ _ (.ptr _ _ _ rfl) .nil)) .nil .nil)
    | cons ns0 nss =>
     cases ar with
     | nil =>
      refine aI (by kernel_rfl) ?_
      refine ⟨(i + 1, [x], nx), ⟨hlt, by rw [<- hql]; rfl, hm2⟩, by show numAt B 10 2 - (i + 1) < numAt B 10 2 - i; omega, ?_⟩
      exact zAi [0, 1, 2, 3, 4, 5, 10] rfl rfl rfl (fun l e => by cases e) (by decide) (by decide) rfl rfl (zBo rfl) ⟨⟨_, rfl, zAh 8 rfl⟩, (sP rfl rfl), (sP rfl rfl), (sP rfl rfl), (sI rfl), (sP rfl rfl), ⟨_, rfl, .agg _ _ (.cons _ _ _ _ (.ptr _ _ _ rfl) (.cons _ _ _ _ (.ptr _ _ _ rfl) (.cons _ _ _ _ (.ptr _ _ _ rfl) .nil)))⟩, (sI rfl), (sI rfl), zAc rfl (by rw [wrapN (by omega) (by omega)]; omega), tv⟩ ⟨⟨by decide, _, rfl, by show RO _ _ (.cells [.int .i64 _, .int .i64 _, lsV 3 ([] : List QuX), lsV 4 ([] : List RcX), lsV 5 (ns0 :: nss), lsV 10 [x]] _) _; refine zBq (b1 := 3) (b2 := 4) (b3 := 5) (b4 := 10) (c1 := 3) (c2 := 4) (c3 := 5) (c4 := 6) ?_ ?_ ?_ ?_ _ _ ([] : List QuX) ([] : List RcX) (ns0 :: nss) [x] <;> rfl⟩, bpo rfl, bpo rfl, tv⟩ ⟨(zAa layQ (by decide) rfl), (zAa layR (by decide) rfl), (zAa layR (by decide) rfl), (fun o ho => ⟨by decide, _, rfl, by cases ho; exact zAv rfl rfl⟩), tv⟩ (.fn _ _ _ _ _ _ _ (.cons _ _ _ _ (.ptr _ _ _ rfl) (.cons _ _ _ _ (.ptr _ _ _ rfl) .nil)) .nil .nil)
     | cons y ys =>
      have hfl : (List.flatMap layR.g (y :: ys)).length = (ys.length + 1) * 5 := zAg layR.g 5 layR.len (y :: ys)
      have hyl : ys.length + 1 = i := hql
      refine aI (by kernel_rfl) ?_
      refine aI (by rw [hszR, hbyR]; simp only [bA, dT]; exact ⟨⟨⟨⟨⟨⟨rfl, rfl⟩, bL (by rw [hfl]; omega)⟩, rfl⟩, by omega⟩, by omega⟩, bL (by rw [hfl]; show (ys.length + 1) * 5 + 1 <= 0 + (ys.length + 1) * 5 + 5; omega)⟩) ?_
      have ec : List.take ((ys.length + 1) * 5) (List.flatMap layR.g (y :: ys)) ++ layR.g x = (y :: (ys ++ [x])).flatMap layR.g := by rw [aD (by rw [hfl]; omega), <- bC, List.flatMap_append]; simp
      refine ⟨(i + 1, y :: (ys ++ [x]), nx), ⟨hlt, by show (y :: (ys ++ [x])).length = _; simp; omega, hm2⟩, by show numAt B 10 2 - (i + 1) < numAt B 10 2 - i; omega, ?_⟩
      exact zAi [0, 1, 2, 3, 4, 5, 10] rfl rfl rfl (fun l e => by cases e) (by decide) (by decide) rfl rfl (zBo rfl) ⟨⟨_, rfl, zAh 8 rfl⟩, (sP rfl rfl), (sP rfl rfl), (sP rfl rfl), (sI rfl), (sP rfl rfl), ⟨_, rfl, .agg _ _ (.cons _ _ _ _ (.ptr _ _ _ rfl) (.cons _ _ _ _ (.ptr _ _ _ rfl) (.cons _ _ _ _ (.ptr _ _ _ rfl) .nil)))⟩, (sI rfl), (sI rfl), zAc rfl (by rw [wrapN (by omega) (by omega)]; omega), tv⟩ ⟨⟨by decide, _, rfl, by show RO _ _ (.cells [.int .i64 _, .int .i64 _, lsV 3 ([] : List QuX), lsV 4 ([] : List RcX), lsV 5 (ns0 :: nss), sq 10 (ys.length + 1 + 1) U] _) _; rw [zBu y ys x 10]; refine zBq (b1 := 3) (b2 := 4) (b3 := 5) (b4 := 10) (c1 := 3) (c2 := 4) (c3 := 5) (c4 := 6) ?_ ?_ ?_ ?_ _ _ ([] : List QuX) ([] : List RcX) (ns0 :: nss) (y :: (ys ++ [x])) <;> rfl⟩, bpo rfl, bpo rfl, tv⟩ ⟨(zAa layQ (by decide) rfl), (zAa layR (by decide) rfl), (zAa layR (by decide) rfl), (fun o ho => ⟨by decide, _, rfl, by cases ho; exact zAv (by rw [<- ec]; rfl) (zAe layR.g layR.plain _)⟩), tv⟩ (.fn _ _ _ _ _ _ _ (.cons _ _ _ _ (.ptr _ _ _ rfl) (.cons _ _ _ _ (.ptr _ _ _ rfl) .nil)) .nil .nil)
   | cons an0 ans =>
    cases ns with
    | nil =>
     cases ar with
     | nil =>
      refine aI (by kernel_rfl) ?_
      refine ⟨(i + 1, [x], nx), ⟨hlt, by rw [<- hql]; rfl, hm2⟩, by show numAt B 10 2 - (i + 1) < numAt B 10 2 - i; omega, ?_⟩
      exact zAi [0, 1, 2, 3, 4, 5, 10] rfl rfl rfl (fun l e => by cases e) (by decide) (by decide) rfl rfl (zBo rfl) ⟨⟨_, rfl, zAh 8 rfl⟩, (sP rfl rfl), (sP rfl rfl), (sP rfl rfl), (sI rfl), (sP rfl rfl), ⟨_, rfl, .agg _ _ (.cons _ _ _ _ (.ptr _ _ _ rfl) (.cons _ _ _ _ (.ptr _ _ _ rfl) (.cons _ _ _ _ (.ptr _ _ _ rfl) .nil)))⟩, (sI rfl), (sI rfl), zAc rfl (by rw [wrapN (by omega) (by omega)]; omega), tv⟩ ⟨⟨by decide, _, rfl, by show RO _ _ (.cells [.int .i64 _, .int .i64 _, lsV 3 ([] : List QuX), lsV 4 (an0 :: ans), lsV 5 ([] : List RcX), lsV 10 [x]] _) _; refine zBq (b1 := 3) (b2 := 4) (b3 := 5) (b4 := 10) (c1 := 3) (c2 := 4) (c3 := 5) (c4 := 6) ?_ ?_ ?_ ?_ _ _ ([] : List QuX) (an0 :: ans) ([] : List RcX) [x] <;> rfl⟩, bpo rfl, bpo rfl, tv⟩ ⟨(zAa layQ (by decide) rfl), (zAa layR (by decide) rfl), (zAa layR (by decide) rfl), (fun o ho => ⟨by decide, _, rfl, by cases ho; exact zAv rfl rfl⟩), tv⟩ (.fn _ _ _ _ _ _ _ (.cons _ _ _ _ (.ptr _ _ _ rfl) (.cons _ _ _ _ (.ptr _ _ _ rfl) .nil)) .nil .nil)
     | cons y ys =>
      have hfl : (List.flatMap layR.g (y :: ys)).length = (ys.length + 1) * 5 := zAg layR.g 5 layR.len (y :: ys)
      have hyl : ys.length + 1 = i := hql
      refine aI (by kernel_rfl) ?_
      refine aI (by rw [hszR, hbyR]; simp only [bA, dT]; exact ⟨⟨⟨⟨⟨⟨rfl, rfl⟩, bL (by rw [hfl]; omega)⟩, rfl⟩, by omega⟩, by omega⟩, bL (by rw [hfl]; show (ys.length + 1) * 5 + 1 <= 0 + (ys.length + 1) * 5 + 5; omega)⟩) ?_
      have ec : List.take ((ys.length + 1) * 5) (List.flatMap layR.g (y :: ys)) ++ layR.g x = (y :: (ys ++ [x])).flatMap layR.g := by rw [aD (by rw [hfl]; omega), <- bC, List.flatMap_append]; simp
      refine ⟨(i + 1, y :: (ys ++ [x]), nx), ⟨hlt, by show (y :: (ys ++ [x])).length = _; simp; omega, hm2⟩, by show numAt B 10 2 - (i + 1) < numAt B 10 2 - i; omega, ?_⟩
      exact zAi [0, 1, 2, 3, 4, 5, 10] rfl rfl rfl (fun l e => by cases e) (by decide) (by decide) rfl rfl (zBo rfl) ⟨⟨_, rfl, zAh 8 rfl⟩, (sP rfl rfl), (sP rfl rfl), (sP rfl rfl), (sI rfl), (sP rfl rfl), ⟨_, rfl, .agg _ _ (.cons _ _ _ _ (.ptr _ _ _ rfl) (.cons _ _ _ _ (.ptr _ _ _ rfl) (.cons _ _ _ _ (.ptr _ _ _ rfl) .nil)))⟩, (sI rfl), (sI rfl), zAc rfl (by rw [wrapN (by omega) (by omega)]; omega), tv⟩ ⟨⟨by decide, _, rfl, by show RO _ _ (.cells [.int .i64 _, .int .i64 _, lsV 3 ([] : List QuX), lsV 4 (an0 :: ans), lsV 5 ([] : List RcX), sq 10 (ys.length + 1 + 1) U] _) _; rw [zBu y ys x 10]; refine zBq (b1 := 3) (b2 := 4) (b3 := 5) (b4 := 10) (c1 := 3) (c2 := 4) (c3 := 5) (c4 := 6) ?_ ?_ ?_ ?_ _ _ ([] : List QuX) (an0 :: ans) ([] : List RcX) (y :: (ys ++ [x])) <;> rfl⟩, bpo rfl, bpo rfl, tv⟩ ⟨(zAa layQ (by decide) rfl), (zAa layR (by decide) rfl), (zAa layR (by decide) rfl), (fun o ho => ⟨by decide, _, rfl, by cases ho; exact zAv (by rw [<- ec]; rfl) (zAe layR.g layR.plain _)⟩), tv⟩ (.fn _ _ _ _ _ _ _ (.cons _ _ _ _ (.ptr _ _ _ rfl) (.cons _ _ _ _ (.ptr _ _ _ rfl) .nil)) .nil .nil)
    | cons ns0 nss =>
     cases ar with
     | nil =>
      refine aI (by kernel_rfl) ?_
      refine ⟨(i + 1, [x], nx), ⟨hlt, by rw [<- hql]; rfl, hm2⟩, by show numAt B 10 2 - (i + 1) < numAt B 10 2 - i; omega, ?_⟩
      exact zAi [0, 1, 2, 3, 4, 5, 10] rfl rfl rfl (fun l e => by cases e) (by decide) (by decide) rfl rfl (zBo rfl) ⟨⟨_, rfl, zAh 8 rfl⟩, (sP rfl rfl), (sP rfl rfl), (sP rfl rfl), (sI rfl), (sP rfl rfl), ⟨_, rfl, .agg _ _ (.cons _ _ _ _ (.ptr _ _ _ rfl) (.cons _ _ _ _ (.ptr _ _ _ rfl) (.cons _ _ _ _ (.ptr _ _ _ rfl) .nil)))⟩, (sI rfl), (sI rfl), zAc rfl (by rw [wrapN (by omega) (by omega)]; omega), tv⟩ ⟨⟨by decide, _, rfl, by show RO _ _ (.cells [.int .i64 _, .int .i64 _, lsV 3 ([] : List QuX), lsV 4 (an0 :: ans), lsV 5 (ns0 :: nss), lsV 10 [x]] _) _; refine zBq (b1 := 3) (b2 := 4) (b3 := 5) (b4 := 10) (c1 := 3) (c2 := 4) (c3 := 5) (c4 := 6) ?_ ?_ ?_ ?_ _ _ ([] : List QuX) (an0 :: ans) (ns0 :: nss) [x] <;> rfl⟩, bpo rfl, bpo rfl, tv⟩ ⟨(zAa layQ (by decide) rfl), (zAa layR (by decide) rfl), (zAa layR (by decide) rfl), (fun o ho => ⟨by decide, _, rfl, by cases ho; exact zAv rfl rfl⟩), tv⟩ (.fn _ _ _ _ _ _ _ (.cons _ _ _ _ (.ptr _ _ _ rfl) (.cons _ _ _ _ (.ptr _ _ _ rfl) .nil)) .nil .nil)
     | cons y ys =>
      have hfl : (List.flatMap layR.g (y :: ys)).length = (ys.length + 1) * 5 := zAg layR.g 5 layR.len (y :: ys)
      have hyl : ys.length + 1 = i := hql
      refine aI (by kernel_rfl) ?_
      refine aI (by rw [hszR, hbyR]; simp only [bA, dT]; exact ⟨⟨⟨⟨⟨⟨rfl, rfl⟩, bL (by rw [hfl]; omega)⟩, rfl⟩, by omega⟩, by omega⟩, bL (by rw [hfl]; show (ys.length + 1) * 5 + 1 <= 0 + (ys.length + 1) * 5 + 5; omega)⟩) ?_
      have ec : List.take ((ys.length + 1) * 5) (List.flatMap layR.g (y :: ys)) ++ layR.g x = (y :: (ys ++ [x])).flatMap layR.g := by rw [aD (by rw [hfl]; omega), <- bC, List.flatMap_append]; simp
      refine ⟨(i + 1, y :: (ys ++ [x]), nx), ⟨hlt, by show (y :: (ys ++ [x])).length = _; simp; omega, hm2⟩, by show numAt B 10 2 - (i + 1) < numAt B 10 2 - i; omega, ?_⟩
      exact zAi [0, 1, 2, 3, 4, 5, 10] rfl rfl rfl (fun l e => by cases e) (by decide) (by decide) rfl rfl (zBo rfl) ⟨⟨_, rfl, zAh 8 rfl⟩, (sP rfl rfl), (sP rfl rfl), (sP rfl rfl), (sI rfl), (sP rfl rfl), ⟨_, rfl, .agg _ _ (.cons _ _ _ _ (.ptr _ _ _ rfl) (.cons _ _ _ _ (.ptr _ _ _ rfl) (.cons _ _ _ _ (.ptr _ _ _ rfl) .nil)))⟩, (sI rfl), (sI rfl), zAc rfl (by rw [wrapN (by omega) (by omega)]; omega), tv⟩ ⟨⟨by decide, _, rfl, by show RO _ _ (.cells [.int .i64 _, .int .i64 _, lsV 3 ([] : List QuX), lsV 4 (an0 :: ans), lsV 5 (ns0 :: nss), sq 10 (ys.length + 1 + 1) U] _) _; rw [zBu y ys x 10]; refine zBq (b1 := 3) (b2 := 4) (b3 := 5) (b4 := 10) (c1 := 3) (c2 := 4) (c3 := 5) (c4 := 6) ?_ ?_ ?_ ?_ _ _ ([] : List QuX) (an0 :: ans) (ns0 :: nss) (y :: (ys ++ [x])) <;> rfl⟩, bpo rfl, bpo rfl, tv⟩ ⟨(zAa layQ (by decide) rfl), (zAa layR (by decide) rfl), (zAa layR (by decide) rfl), (fun o ho => ⟨by decide, _, rfl, by cases ho; exact zAv (by rw [<- ec]; rfl) (zAe layR.g layR.plain _)⟩), tv⟩ (.fn _ _ _ _ _ _ _ (.cons _ _ _ _ (.ptr _ _ _ rfl) (.cons _ _ _ _ (.ptr _ _ _ rfl) .nil)) .nil .nil)
  | cons q0 qs =>
   cases an with
   | nil =>
    cases ns with
    | nil =>
     cases ar with
     | nil =>
      refine aI (by kernel_rfl) ?_
      refine ⟨(i + 1, [x], nx), ⟨hlt, by rw [<- hql]; rfl, hm2⟩, by show numAt B 10 2 - (i + 1) < numAt B 10 2 - i; omega, ?_⟩
      exact zAi [0, 1, 2, 3, 4, 5, 10] rfl rfl rfl (fun l e => by cases e) (by decide) (by decide) rfl rfl (zBo rfl) ⟨⟨_, rfl, zAh 8 rfl⟩, (sP rfl rfl), (sP rfl rfl), (sP rfl rfl), (sI rfl), (sP rfl rfl), ⟨_, rfl, .agg _ _ (.cons _ _ _ _ (.ptr _ _ _ rfl) (.cons _ _ _ _ (.ptr _ _ _ rfl) (.cons _ _ _ _ (.ptr _ _ _ rfl) .nil)))⟩, (sI rfl), (sI rfl), zAc rfl (by rw [wrapN (by omega) (by omega)]; omega), tv⟩ ⟨⟨by decide, _, rfl, by show RO _ _ (.cells [.int .i64 _, .int .i64 _, lsV 3 (q0 :: qs), lsV 4 ([] : List RcX), lsV 5 ([] : List RcX), lsV 10 [x]] _) _; refine zBq (b1 := 3) (b2 := 4) (b3 := 5) (b4 := 10) (c1 := 3) (c2 := 4) (c3 := 5) (c4 := 6) ?_ ?_ ?_ ?_ _ _ (q0 :: qs) ([] : List RcX) ([] : List RcX) [x] <;> rfl⟩, bpo rfl, bpo rfl, tv⟩ ⟨(zAa layQ (by decide) rfl), (zAa layR (by decide) rfl), (zAa layR (by decide) rfl), (fun o ho => ⟨by decide, _, rfl, by cases ho; exact zAv rfl rfl⟩), tv⟩ (.fn _ _ _ _ _ _ _ (.cons _ _ _ _ (.ptr _ _ _ rfl) (.cons _ _ _ _ (.ptr _ _ _ rfl) .nil)) .nil .nil)
     | cons y ys =>
      have hfl : (List.flatMap layR.g (y :: ys)).length = (ys.length + 1) * 5 := zAg layR.g 5 layR.len (y :: ys)
      have hyl : ys.length + 1 = i := hql
      refine aI (by kernel_rfl) ?_
      refine aI (by rw [hszR, hbyR]; simp only [bA, dT]; exact ⟨⟨⟨⟨⟨⟨rfl, rfl⟩, bL (by rw [hfl]; omega)⟩, rfl⟩, by omega⟩, by omega⟩, bL (by rw [hfl]; show (ys.length + 1) * 5 + 1 <= 0 + (ys.length + 1) * 5 + 5; omega)⟩) ?_
      have ec : List.take ((ys.length + 1) * 5) (List.flatMap layR.g (y :: ys)) ++ layR.g x = (y :: (ys ++ [x])).flatMap layR.g := by rw [aD (by rw [hfl]; omega), <- bC, List.flatMap_append]; simp
      refine ⟨(i + 1, y :: (ys ++ [x]), nx), ⟨hlt, by show (y :: (ys ++ [x])).length = _; simp; omega, hm2⟩, by show numAt B 10 2 - (i + 1) < numAt B 10 2 - i; omega, ?_⟩
      exact zAi [0, 1, 2, 3, 4, 5, 10] rfl rfl rfl (fun l e => by cases e) (by decide) (by decide) rfl rfl (zBo rfl) ⟨⟨_, rfl, zAh 8 rfl⟩, (sP rfl rfl), (sP rfl rfl), (sP rfl rfl), (sI rfl), (sP rfl rfl), ⟨_, rfl, .agg _ _ (.cons _ _ _ _ (.ptr _ _ _ rfl) (.cons _ _ _ _ (.ptr _ _ _ rfl) (.cons _ _ _ _ (.ptr _ _ _ rfl) .nil)))⟩, (sI rfl), (sI rfl), zAc rfl (by rw [wrapN (by omega) (by omega)]; omega), tv⟩ ⟨⟨by decide, _, rfl, by show RO _ _ (.cells [.int .i64 _, .int .i64 _, lsV 3 (q0 :: qs), lsV 4 ([] : List RcX), lsV 5 ([] : List RcX), sq 10 (ys.length + 1 + 1) U] _) _; rw [zBu y ys x 10]; refine zBq (b1 := 3) (b2 := 4) (b3 := 5) (b4 := 10) (c1 := 3) (c2 := 4) (c3 := 5) (c4 := 6) ?_ ?_ ?_ ?_ _ _ (q0 :: qs) ([] : List RcX) ([] : List RcX) (y :: (ys ++ [x])) <;> rfl⟩, bpo rfl, bpo rfl, tv⟩ ⟨(zAa layQ (by decide) rfl), (zAa layR (by decide) rfl), (zAa layR (by decide) rfl), (fun o ho => ⟨by decide, _, rfl, by cases ho; exact zAv (by rw [<- ec]; rfl) (zAe layR.g layR.plain _)⟩), tv⟩ (.fn _ _ _ _ _ _ _ (.cons _ _ _ _ (.ptr _ _ _ rfl) (.cons _ _ _ _ (.ptr _ _ _ rfl) .nil)) .nil .nil)
    | cons ns0 nss =>
     cases ar with
     | nil =>
      refine aI (by kernel_rfl) ?_
      refine ⟨(i + 1, [x], nx), ⟨hlt, by rw [<- hql]; rfl, hm2⟩, by show numAt B 10 2 - (i + 1) < numAt B 10 2 - i; omega, ?_⟩
      exact zAi [0, 1, 2, 3, 4, 5, 10] rfl rfl rfl (fun l e => by cases e) (by decide) (by decide) rfl rfl (zBo rfl) ⟨⟨_, rfl, zAh 8 rfl⟩, (sP rfl rfl), (sP rfl rfl), (sP rfl rfl), (sI rfl), (sP rfl rfl), ⟨_, rfl, .agg _ _ (.cons _ _ _ _ (.ptr _ _ _ rfl) (.cons _ _ _ _ (.ptr _ _ _ rfl) (.cons _ _ _ _ (.ptr _ _ _ rfl) .nil)))⟩, (sI rfl), (sI rfl), zAc rfl (by rw [wrapN (by omega) (by omega)]; omega), tv⟩ ⟨⟨by decide, _, rfl, by show RO _ _ (.cells [.int .i64 _, .int .i64 _, lsV 3 (q0 :: qs), lsV 4 ([] : List RcX), lsV 5 (ns0 :: nss), lsV 10 [x]] _) _; refine zBq (b1 := 3) (b2 := 4) (b3 := 5) (b4 := 10) (c1 := 3) (c2 := 4) (c3 := 5) (c4 := 6) ?_ ?_ ?_ ?_ _ _ (q0 :: qs) ([] : List RcX) (ns0 :: nss) [x] <;> rfl⟩, bpo rfl, bpo rfl, tv⟩ ⟨(zAa layQ (by decide) rfl), (zAa layR (by decide) rfl), (zAa layR (by decide) rfl), (fun o ho => ⟨by decide, _, rfl, by cases ho; exact zAv rfl rfl⟩), tv⟩ (.fn _ _ _ _ _ _ _ (.cons _ _ _ _ (.ptr _ _ _ rfl) (.cons _ _ _ _ (.ptr _ _ _ rfl) .nil)) .nil .nil)
     | cons y ys =>
      have hfl : (List.flatMap layR.g (y :: ys)).length = (ys.length + 1) * 5 := zAg layR.g 5 layR.len (y :: ys)
      have hyl : ys.length + 1 = i := hql
      refine aI (by kernel_rfl) ?_
      refine aI (by rw [hszR, hbyR]; simp only [bA, dT]; exact ⟨⟨⟨⟨⟨⟨rfl, rfl⟩, bL (by rw [hfl]; omega)⟩, rfl⟩, by omega⟩, by omega⟩, bL (by rw [hfl]; show (ys.length + 1) * 5 + 1 <= 0 + (ys.length + 1) * 5 + 5; omega)⟩) ?_
      have ec : List.take ((ys.length + 1) * 5) (List.flatMap layR.g (y :: ys)) ++ layR.g x = (y :: (ys ++ [x])).flatMap layR.g := by rw [aD (by rw [hfl]; omega), <- bC, List.flatMap_append]; simp
      refine ⟨(i + 1, y :: (ys ++ [x]), nx), ⟨hlt, by show (y :: (ys ++ [x])).length = _; simp; omega, hm2⟩, by show numAt B 10 2 - (i + 1) < numAt B 10 2 - i; omega, ?_⟩
      exact zAi [0, 1, 2, 3, 4, 5, 10] rfl rfl rfl (fun l e => by cases e) (by decide) (by decide) rfl rfl (zBo rfl) ⟨⟨_, rfl, zAh 8 rfl⟩, (sP rfl rfl), (sP rfl rfl), (sP rfl rfl), (sI rfl), (sP rfl rfl), ⟨_, rfl, .agg _ _ (.cons _ _ _ _ (.ptr _ _ _ rfl) (.cons _ _ _ _ (.ptr _ _ _ rfl) (.cons _ _ _ _ (.ptr _ _ _ rfl) .nil)))⟩, (sI rfl), (sI rfl), zAc rfl (by rw [wrapN (by omega) (by omega)]; omega), tv⟩ ⟨⟨by decide, _, rfl, by show RO _ _ (.cells [.int .i64 _, .int .i64 _, lsV 3 (q0 :: qs), lsV 4 ([] : List RcX), lsV 5 (ns0 :: nss), sq 10 (ys.length + 1 + 1) U] _) _; rw [zBu y ys x 10]; refine zBq (b1 := 3) (b2 := 4) (b3 := 5) (b4 := 10) (c1 := 3) (c2 := 4) (c3 := 5) (c4 := 6) ?_ ?_ ?_ ?_ _ _ (q0 :: qs) ([] : List RcX) (ns0 :: nss) (y :: (ys ++ [x])) <;> rfl⟩, bpo rfl, bpo rfl, tv⟩ ⟨(zAa layQ (by decide) rfl), (zAa layR (by decide) rfl), (zAa layR (by decide) rfl), (fun o ho => ⟨by decide, _, rfl, by cases ho; exact zAv (by rw [<- ec]; rfl) (zAe layR.g layR.plain _)⟩), tv⟩ (.fn _ _ _ _ _ _ _ (.cons _ _ _ _ (.ptr _ _ _ rfl) (.cons _ _ _ _ (.ptr _ _ _ rfl) .nil)) .nil .nil)
   | cons an0 ans =>
    cases ns with
    | nil =>
     cases ar with
     | nil =>
      refine aI (by kernel_rfl) ?_
      refine ⟨(i + 1, [x], nx), ⟨hlt, by rw [<- hql]; rfl, hm2⟩, by show numAt B 10 2 - (i + 1) < numAt B 10 2 - i; omega, ?_⟩
      exact zAi [0, 1, 2, 3, 4, 5, 10] rfl rfl rfl (fun l e => by cases e) (by decide) (by decide) rfl rfl (zBo rfl) ⟨⟨_, rfl, zAh 8 rfl⟩, (sP rfl rfl), (sP rfl rfl), (sP rfl rfl), (sI rfl), (sP rfl rfl), ⟨_, rfl, .agg _ _ (.cons _ _ _ _ (.ptr _ _ _ rfl) (.cons _ _ _ _ (.ptr _ _ _ rfl) (.cons _ _ _ _ (.ptr _ _ _ rfl) .nil)))⟩, (sI rfl), (sI rfl), zAc rfl (by rw [wrapN (by omega) (by omega)]; omega), tv⟩ ⟨⟨by decide, _, rfl, by show RO _ _ (.cells [.int .i64 _, .int .i64 _, lsV 3 (q0 :: qs), lsV 4 (an0 :: ans), lsV 5 ([] : List RcX), lsV 10 [x]] _) _; refine zBq (b1 := 3) (b2 := 4) (b3 := 5) (b4 := 10) (c1 := 3) (c2 := 4) (c3 := 5) (c4 := 6) ?_ ?_ ?_ ?_ _ _ (q0 :: qs) (an0 :: ans) ([] : List RcX) [x] <;> rfl⟩, bpo rfl, bpo rfl, tv⟩ ⟨(zAa layQ (by decide) rfl), (zAa layR (by decide) rfl), (zAa layR (by decide) rfl), (fun o ho => ⟨by decide, _, rfl, by cases ho; exact zAv rfl rfl⟩), tv⟩ (.fn _ _ _ _ _ _ _ (.cons _ _ _ _ (.ptr _ _ _ rfl) (.cons _ _ _ _ (.ptr _ _ _ rfl) .nil)) .nil .nil)
     | cons y ys =>
      have hfl : (List.flatMap layR.g (y :: ys)).length = (ys.length + 1) * 5 := zAg layR.g 5 layR.len (y :: ys)
      have hyl : ys.length + 1 = i := hql
      refine aI (by kernel_rfl) ?_
      refine aI (by rw [hszR, hbyR]; simp only [bA, dT]; exact ⟨⟨⟨⟨⟨⟨rfl, rfl⟩, bL (by rw [hfl]; omega)⟩, rfl⟩, by omega⟩, by omega⟩, bL (by rw [hfl]; show (ys.length + 1) * 5 + 1 <= 0 + (ys.length + 1) * 5 + 5; omega)⟩) ?_
      have ec : List.take ((ys.length + 1) * 5) (List.flatMap layR.g (y :: ys)) ++ layR.g x = (y :: (ys ++ [x])).flatMap layR.g := by rw [aD (by rw [hfl]; omega), <- bC, List.flatMap_append]; simp
      refine ⟨(i + 1, y :: (ys ++ [x]), nx), ⟨hlt, by show (y :: (ys ++ [x])).length = _; simp; omega, hm2⟩, by show numAt B 10 2 - (i + 1) < numAt B 10 2 - i; omega, ?_⟩
      exact zAi [0, 1, 2, 3, 4, 5, 10] rfl rfl rfl (fun l e => by cases e) (by decide) (by decide) rfl rfl (zBo rfl) ⟨⟨_, rfl, zAh 8 rfl⟩, (sP rfl rfl), (sP rfl rfl), (sP rfl rfl), (sI rfl), (sP rfl rfl), ⟨_, rfl, .agg _ _ (.cons _ _ _ _ (.ptr _ _ _ rfl) (.cons _ _ _ _ (.ptr _ _ _ rfl) (.cons _ _ _ _ (.ptr _ _ _ rfl) .nil)))⟩, (sI rfl), (sI rfl), zAc rfl (by rw [wrapN (by omega) (by omega)]; omega), tv⟩ ⟨⟨by decide, _, rfl, by show RO _ _ (.cells [.int .i64 _, .int .i64 _, lsV 3 (q0 :: qs), lsV 4 (an0 :: ans), lsV 5 ([] : List RcX), sq 10 (ys.length + 1 + 1) U] _) _; rw [zBu y ys x 10]; refine zBq (b1 := 3) (b2 := 4) (b3 := 5) (b4 := 10) (c1 := 3) (c2 := 4) (c3 := 5) (c4 := 6) ?_ ?_ ?_ ?_ _ _ (q0 :: qs) (an0 :: ans) ([] : List RcX) (y :: (ys ++ [x])) <;> rfl⟩, bpo rfl, bpo rfl, tv⟩ ⟨(zAa layQ (by decide) rfl), (zAa layR (by decide) rfl), (zAa layR (by decide) rfl), (fun o ho => ⟨by decide, _, rfl, by cases ho; exact zAv (by rw [<- ec]; rfl) (zAe layR.g layR.plain _)⟩), tv⟩ (.fn _ _ _ _ _ _ _ (.cons _ _ _ _ (.ptr _ _ _ rfl) (.cons _ _ _ _ (.ptr _ _ _ rfl) .nil)) .nil .nil)
    | cons ns0 nss =>
     cases ar with
     | nil =>
      refine aI (by kernel_rfl) ?_
      refine ⟨(i + 1, [x], nx), ⟨hlt, by rw [<- hql]; rfl, hm2⟩, by show numAt B 10 2 - (i + 1) < numAt B 10 2 - i; omega, ?_⟩
      exact zAi [0, 1, 2, 3, 4, 5, 10] rfl rfl rfl (fun l e => by cases e) (by decide) (by decide) rfl rfl (zBo rfl) ⟨⟨_, rfl, zAh 8 rfl⟩, (sP rfl rfl), (sP rfl rfl), (sP rfl rfl), (sI rfl), (sP rfl rfl), ⟨_, rfl, .agg _ _ (.cons _ _ _ _ (.ptr _ _ _ rfl) (.cons _ _ _ _ (.ptr _ _ _ rfl) (.cons _ _ _ _ (.ptr _ _ _ rfl) .nil)))⟩, (sI rfl), (sI rfl), zAc rfl (by rw [wrapN (by omega) (by omega)]; omega), tv⟩ ⟨⟨by decide, _, rfl, by show RO _ _ (.cells [.int .i64 _, .int .i64 _, lsV 3 (q0 :: qs), lsV 4 (an0 :: ans), lsV 5 (ns0 :: nss), lsV 10 [x]] _) _; refine zBq (b1 := 3) (b2 := 4) (b3 := 5) (b4 := 10) (c1 := 3) (c2 := 4) (c3 := 5) (c4 := 6) ?_ ?_ ?_ ?_ _ _ (q0 :: qs) (an0 :: ans) (ns0 :: nss) [x] <;> rfl⟩, bpo rfl, bpo rfl, tv⟩ ⟨(zAa layQ (by decide) rfl), (zAa layR (by decide) rfl), (zAa layR (by decide) rfl), (fun o ho => ⟨by decide, _, rfl, by cases ho; exact zAv rfl rfl⟩), tv⟩ (.fn _ _ _ _ _ _ _ (.cons _ _ _ _ (.ptr _ _ _ rfl) (.cons _ _ _ _ (.ptr _ _ _ rfl) .nil)) .nil .nil)
     | cons y ys =>
      have hfl : (List.flatMap layR.g (y :: ys)).length = (ys.length + 1) * 5 := zAg layR.g 5 layR.len (y :: ys)
      have hyl : ys.length + 1 = i := hql
      refine aI (by kernel_rfl) ?_
      refine aI (by rw [hszR, hbyR]; simp only [bA, dT]; exact ⟨⟨⟨⟨⟨⟨rfl, rfl⟩, bL (by rw [hfl]; omega)⟩, rfl⟩, by omega⟩, by omega⟩, bL (by rw [hfl]; show (ys.length + 1) * 5 + 1 <= 0 + (ys.length + 1) * 5 + 5; omega)⟩) ?_
      have ec : List.take ((ys.length + 1) * 5) (List.flatMap layR.g (y :: ys)) ++ layR.g x = (y :: (ys ++ [x])).flatMap layR.g := by rw [aD (by rw [hfl]; omega), <- bC, List.flatMap_append]; simp
      refine ⟨(i + 1, y :: (ys ++ [x]), nx), ⟨hlt, by show (y :: (ys ++ [x])).length = _; simp; omega, hm2⟩, by show numAt B 10 2 - (i + 1) < numAt B 10 2 - i; omega, ?_⟩
      exact zAi [0, 1, 2, 3, 4, 5, 10] rfl rfl rfl (fun l e => by cases e) (by decide) (by decide) rfl rfl (zBo rfl) ⟨⟨_, rfl, zAh 8 rfl⟩, (sP rfl rfl), (sP rfl rfl), (sP rfl rfl), (sI rfl), (sP rfl rfl), ⟨_, rfl, .agg _ _ (.cons _ _ _ _ (.ptr _ _ _ rfl) (.cons _ _ _ _ (.ptr _ _ _ rfl) (.cons _ _ _ _ (.ptr _ _ _ rfl) .nil)))⟩, (sI rfl), (sI rfl), zAc rfl (by rw [wrapN (by omega) (by omega)]; omega), tv⟩ ⟨⟨by decide, _, rfl, by show RO _ _ (.cells [.int .i64 _, .int .i64 _, lsV 3 (q0 :: qs), lsV 4 (an0 :: ans), lsV 5 (ns0 :: nss), sq 10 (ys.length + 1 + 1) U] _) _; rw [zBu y ys x 10]; refine zBq (b1 := 3) (b2 := 4) (b3 := 5) (b4 := 10) (c1 := 3) (c2 := 4) (c3 := 5) (c4 := 6) ?_ ?_ ?_ ?_ _ _ (q0 :: qs) (an0 :: ans) (ns0 :: nss) (y :: (ys ++ [x])) <;> rfl⟩, bpo rfl, bpo rfl, tv⟩ ⟨(zAa layQ (by decide) rfl), (zAa layR (by decide) rfl), (zAa layR (by decide) rfl), (fun o ho => ⟨by decide, _, rfl, by cases ho; exact zAv (by rw [<- ec]; rfl) (zAe layR.g layR.plain _)⟩), tv⟩ (.fn _ _ _ _ _ _ _ (.cons _ _ _ _ (.ptr _ _ _ rfl) (.cons _ _ _ _ (.ptr _ _ _ rfl) .nil)) .nil .nil)
 have hiq : i = numAt B 10 2 := by have h1 : ¬ ((i : Nat) : Int) < ((numAt B 10 2 : Nat) : Int) := oF h1; omega
 subst hiq
 have hlar : ar.length = numAt B 10 2 := hql
 refine aI rfl (zAj (zAi [0, 1, 2, 3, 4, 5, 6] rfl rfl rfl (fun l e => by cases e) (by decide) (by decide) rfl rfl (zBo rfl) (d := 7) (d2 := 3) (lv := [(0, trB B), (2, pt 0), (3, pt 1), (4, pt 2), (5, .int .i64 at'), (73, .agg #[.pointer (some ⟨0, 3, none⟩), .pointer (some ⟨0, 4, none⟩), .pointer (some ⟨0, 5, none⟩)]), (74, .int .i64 2)]) (bs := [(0, .cells [.int .i64 (numAt B 0 2 : Nat), .int .i64 (numAt B 2 2 : Nat), lsV 3 q, lsV 4 an, lsV 5 ns, lsV 6 ar] 25), (1, .cells [.int .i64 0, .int .i64 0] 48), (2, .cells [.int .i64 (numAt B 0 2 : Nat), .int .i64 (numAt B 2 2 : Nat), .int .i64 (numAt B 4 2 : Nat), .int .i64 (numAt B 6 2 : Nat), .int .i64 (numAt B 8 2 : Nat), .int .i64 (numAt B 10 2 : Nat)] 85)]) (bo := [(3, lsO layQ q), (4, lsO layR an), (5, lsO layR ns), (6, lsO layR ar)]) (W := []) (m := 7) (df := [.call 60 [pt 1, pt 0] []]) ⟨⟨_, rfl, zAh 8 rfl⟩, (sP rfl rfl), (sP rfl rfl), (sP rfl rfl), (sI rfl), ⟨_, rfl, .agg _ _ (.cons _ _ _ _ (.ptr _ _ _ rfl) (.cons _ _ _ _ (.ptr _ _ _ rfl) (.cons _ _ _ _ (.ptr _ _ _ rfl) .nil)))⟩, (sI rfl), tv⟩ ⟨⟨by decide, _, rfl, by refine zBq (b1 := 3) (b2 := 4) (b3 := 5) (b4 := 6) (c1 := 3) (c2 := 4) (c3 := 5) (c4 := 6) ?_ ?_ ?_ ?_ _ _ q an ns ar <;> rfl⟩, bpo rfl, bpo rfl, tv⟩ ⟨(zAa layQ (by decide) rfl), (zAa layR (by decide) rfl), (zAa layR (by decide) rfl), (zAa layR (by decide) rfl), tv⟩ (.fn _ _ _ _ _ _ _ (.cons _ _ _ _ (.ptr _ _ _ rfl) (.cons _ _ _ _ (.ptr _ _ _ rfl) .nil)) .nil .nil)) (fun f => ?_))
 refine LW.round ?_
 refine zAt tbRm2 [] 0 _ none mixed _ _ _ ?_
 have hfin : mrQ B (numAt B 4 2) (MsT.mk (numAt B 0 2 : Nat) (numAt B 2 2 : Nat) q an ns ar).items at' := by
  have e : (MsT.mk (numAt B 0 2 : Nat) (numAt B 2 2 : Nat) q an ns ar).items = (((q.map (Sum.inl (β := RcX)) ++ an.map (Sum.inr (α := QuX))) ++ ns.map (Sum.inr (α := QuX))) ++ ar.map (Sum.inr (α := QuX))) := by unfold MsT.items; simp
  rw [e]; exact hm
 have hfit : MsFit B (MsT.mk (numAt B 0 2 : Nat) (numAt B 2 2 : Nat) q an ns ar) := ⟨rfl, rfl, hlq, hlan, hlns, hlar⟩
 refine ifK (fun h3 => ?_) (fun h3 => ?_)
 ·have h3 : at' ≠ ((B.length : Nat) : Int) := by have h3 : (at' != ((B.length : Nat) : Int)) = true := h3; simpa using h3
  have hres : msQ B zM 4 at' := .rest ⟨g2, g1⟩ hfin hfit.tot h3
  cases q with
  | nil =>
   cases an with
   | nil =>
    cases ns with
    | nil =>
     cases ar with
     | nil =>
      refine aI rfl (zAk (q := ([] : List QuX)) (an := ([] : List RcX)) (ns := ([] : List RcX)) (ar := ([] : List RcX)) rfl rfl rfl rfl rfl rfl rfl rfl rfl rfl rfl (fun f => ?_))
      refine Eq.mpr (zBg 4 (by decide) _ _ _ _ _ _ at' _ f) ?_
      exact zAf hres
     | cons ar0 ars =>
      refine aI rfl (zAk (q := ([] : List QuX)) (an := ([] : List RcX)) (ns := ([] : List RcX)) (ar := (ar0 :: ars)) rfl rfl rfl rfl rfl rfl rfl rfl rfl rfl rfl (fun f => ?_))
      refine Eq.mpr (zBg 4 (by decide) _ _ _ _ _ _ at' _ f) ?_
      exact zAf hres
    | cons ns0 nss =>
     cases ar with
     | nil =>
      refine aI rfl (zAk (q := ([] : List QuX)) (an := ([] : List RcX)) (ns := (ns0 :: nss)) (ar := ([] : List RcX)) rfl rfl rfl rfl rfl rfl rfl rfl rfl rfl rfl (fun f => ?_))
      refine Eq.mpr (zBg 4 (by decide) _ _ _ _ _ _ at' _ f) ?_
      exact zAf hres
     | cons ar0 ars =>
      refine aI rfl (zAk (q := ([] : List QuX)) (an := ([] : List RcX)) (ns := (ns0 :: nss)) (ar := (ar0 :: ars)) rfl rfl rfl rfl rfl rfl rfl rfl rfl rfl rfl (fun f => ?_))
      refine Eq.mpr (zBg 4 (by decide) _ _ _ _ _ _ at' _ f) ?_
      exact zAf hres
   | cons an0 ans =>
    cases ns with
    | nil =>
     cases ar with
     | nil =>
      refine aI rfl (zAk (q := ([] : List QuX)) (an := (an0 :: ans)) (ns := ([] : List RcX)) (ar := ([] : List RcX)) rfl rfl rfl rfl rfl rfl rfl rfl rfl rfl rfl (fun f => ?_))
      refine Eq.mpr (zBg 4 (by decide) _ _ _ _ _ _ at' _ f) ?_
      exact zAf hres
     | cons ar0 ars =>
      refine aI rfl (zAk (q := ([] : List QuX)) (an := (an0 :: ans)) (ns := ([] : List RcX)) (ar := (ar0 :: ars)) rfl rfl rfl rfl rfl rfl rfl rfl rfl rfl rfl (fun f => ?_))
      refine Eq.mpr (zBg 4 (by decide) _ _ _ _ _ _ at' _ f) ?_
      exact zAf hres
    | cons ns0 nss =>
     cases ar with
     | nil =>
      refine aI rfl (zAk (q := ([] : List QuX)) (an := (an0 :: ans)) (ns := (ns0 :: nss)) (ar := ([] : List RcX)) rfl rfl rfl rfl rfl rfl rfl rfl rfl rfl rfl (fun f => ?_))
      refine Eq.mpr (zBg 4 (by decide) _ _ _ _ _ _ at' _ f) ?_
      exact zAf hres
     | cons ar0 ars =>
      refine aI rfl (zAk (q := ([] : List QuX)) (an := (an0 :: ans)) (ns := (ns0 :: nss)) (ar := (ar0 :: ars)) rfl rfl rfl rfl rfl rfl rfl rfl rfl rfl rfl (fun f => ?_))
      refine Eq.mpr (zBg 4 (by decide) _ _ _ _ _ _ at' _ f) ?_
      exact zAf hres
  | cons q0 qs =>
   cases an with
   | nil =>
    cases ns with
    | nil =>
     cases ar with
     | nil =>
      refine aI rfl (zAk (q := (q0 :: qs)) (an := ([] : List RcX)) (ns := ([] : List RcX)) (ar := ([] : List RcX)) rfl rfl rfl rfl rfl rfl rfl rfl rfl rfl rfl (fun f => ?_))
      refine Eq.mpr (zBg 4 (by decide) _ _ _ _ _ _ at' _ f) ?_
      exact zAf hres
     | cons ar0 ars =>
      refine aI rfl (zAk (q := (q0 :: qs)) (an := ([] : List RcX)) (ns := ([] : List RcX)) (ar := (ar0 :: ars)) rfl rfl rfl rfl rfl rfl rfl rfl rfl rfl rfl (fun f => ?_))
      refine Eq.mpr (zBg 4 (by decide) _ _ _ _ _ _ at' _ f) ?_
      exact zAf hres
    | cons ns0 nss =>
     cases ar with
     | nil =>
      refine aI rfl (zAk (q := (q0 :: qs)) (an := ([] : List RcX)) (ns := (ns0 :: nss)) (ar := ([] : List RcX)) rfl rfl rfl rfl rfl rfl rfl rfl rfl rfl rfl (fun f => ?_))
      refine Eq.mpr (zBg 4 (by decide) _ _ _ _ _ _ at' _ f) ?_
      exact zAf hres
     | cons ar0 ars =>
      refine aI rfl (zAk (q := (q0 :: qs)) (an := ([] : List RcX)) (ns := (ns0 :: nss)) (ar := (ar0 :: ars)) rfl rfl rfl rfl rfl rfl rfl rfl rfl rfl rfl (fun f => ?_))
      refine Eq.mpr (zBg 4 (by decide) _ _ _ _ _ _ at' _ f) ?_
      exact zAf hres
   | cons an0 ans =>
    cases ns with
    | nil =>
     cases ar with
     | nil =>
      refine aI rfl (zAk (q := (q0 :: qs)) (an := (an0 :: ans)) (ns := ([] : List RcX)) (ar := ([] : List RcX)) rfl rfl rfl rfl rfl rfl rfl rfl rfl rfl rfl (fun f => ?_))
      refine Eq.mpr (zBg 4 (by decide) _ _ _ _ _ _ at' _ f) ?_
      exact zAf hres
     | cons ar0 ars =>
      refine aI rfl (zAk (q := (q0 :: qs)) (an := (an0 :: ans)) (ns := ([] : List RcX)) (ar := (ar0 :: ars)) rfl rfl rfl rfl rfl rfl rfl rfl rfl rfl rfl (fun f => ?_))
      refine Eq.mpr (zBg 4 (by decide) _ _ _ _ _ _ at' _ f) ?_
      exact zAf hres
    | cons ns0 nss =>
     cases ar with
     | nil =>
      refine aI rfl (zAk (q := (q0 :: qs)) (an := (an0 :: ans)) (ns := (ns0 :: nss)) (ar := ([] : List RcX)) rfl rfl rfl rfl rfl rfl rfl rfl rfl rfl rfl (fun f => ?_))
      refine Eq.mpr (zBg 4 (by decide) _ _ _ _ _ _ at' _ f) ?_
      exact zAf hres
     | cons ar0 ars =>
      refine aI rfl (zAk (q := (q0 :: qs)) (an := (an0 :: ans)) (ns := (ns0 :: nss)) (ar := (ar0 :: ars)) rfl rfl rfl rfl rfl rfl rfl rfl rfl rfl rfl (fun f => ?_))
      refine Eq.mpr (zBg 4 (by decide) _ _ _ _ _ _ at' _ f) ?_
      exact zAf hres
 have h3 : at' = ((B.length : Nat) : Int) := by have h3 : (at' != ((B.length : Nat) : Int)) = false := h3; simpa using h3
 subst h3
 have hres : msQ B (MsT.mk (numAt B 0 2 : Nat) (numAt B 2 2 : Nat) q an ns ar) 0 0 := .fine ⟨g2, g1⟩ hfin hfit
 cases q with
 | nil =>
  cases an with
  | nil =>
   cases ns with
   | nil =>
    cases ar with
    | nil =>
     refine aI rfl (zAk (q := ([] : List QuX)) (an := ([] : List RcX)) (ns := ([] : List RcX)) (ar := ([] : List RcX)) rfl rfl rfl rfl rfl rfl rfl rfl rfl rfl rfl (fun f => ?_))
     refine Eq.mpr (zGo _ _ _ _ _ _ _ f) ?_
     exact ⟨_, 0, 0, _, _, _, hres, rfl, fun _ => zGp _ _ _ _ _ _ f, fun _ => zGq _ _ _ _ _ _ f, fun _ => zGr _ _ _ _ _ _ f, fun _ => zGs _ _ _ _ _ _ f⟩
    | cons ar0 ars =>
     refine aI rfl (zAk (q := ([] : List QuX)) (an := ([] : List RcX)) (ns := ([] : List RcX)) (ar := (ar0 :: ars)) rfl rfl rfl rfl rfl rfl rfl rfl rfl rfl rfl (fun f => ?_))
     refine Eq.mpr (zGo _ _ _ _ _ _ _ f) ?_
     exact ⟨_, 0, 0, _, _, _, hres, rfl, fun _ => zGp _ _ _ _ _ _ f, fun _ => zGq _ _ _ _ _ _ f, fun _ => zGr _ _ _ _ _ _ f, fun _ => zGs _ _ _ _ _ _ f⟩
   | cons ns0 nss =>
    cases ar with
    | nil =>
     refine aI rfl (zAk (q := ([] : List QuX)) (an := ([] : List RcX)) (ns := (ns0 :: nss)) (ar := ([] : List RcX)) rfl rfl rfl rfl rfl rfl rfl rfl rfl rfl rfl (fun f => ?_))
     refine Eq.mpr (zGo _ _ _ _ _ _ _ f) ?_
     exact ⟨_, 0, 0, _, _, _, hres, rfl, fun _ => zGp _ _ _ _ _ _ f, fun _ => zGq _ _ _ _ _ _ f, fun _ => zGr _ _ _ _ _ _ f, fun _ => zGs _ _ _ _ _ _ f⟩
    | cons ar0 ars =>
     refine aI rfl (zAk (q := ([] : List QuX)) (an := ([] : List RcX)) (ns := (ns0 :: nss)) (ar := (ar0 :: ars)) rfl rfl rfl rfl rfl rfl rfl rfl rfl rfl rfl (fun f => ?_))
     refine Eq.mpr (zGo _ _ _ _ _ _ _ f) ?_
     exact ⟨_, 0, 0, _, _, _, hres, rfl, fun _ => zGp _ _ _ _ _ _ f, fun _ => zGq _ _ _ _ _ _ f, fun _ => zGr _ _ _ _ _ _ f, fun _ => zGs _ _ _ _ _ _ f⟩
  | cons an0 ans =>
   cases ns with
   | nil =>
    cases ar with
    | nil =>
     refine aI rfl (zAk (q := ([] : List QuX)) (an := (an0 :: ans)) (ns := ([] : List RcX)) (ar := ([] : List RcX)) rfl rfl rfl rfl rfl rfl rfl rfl rfl rfl rfl (fun f => ?_))
     refine Eq.mpr (zGo _ _ _ _ _ _ _ f) ?_
     exact ⟨_, 0, 0, _, _, _, hres, rfl, fun _ => zGp _ _ _ _ _ _ f, fun _ => zGq _ _ _ _ _ _ f, fun _ => zGr _ _ _ _ _ _ f, fun _ => zGs _ _ _ _ _ _ f⟩
    | cons ar0 ars =>
     refine aI rfl (zAk (q := ([] : List QuX)) (an := (an0 :: ans)) (ns := ([] : List RcX)) (ar := (ar0 :: ars)) rfl rfl rfl rfl rfl rfl rfl rfl rfl rfl rfl (fun f => ?_))
     refine Eq.mpr (zGo _ _ _ _ _ _ _ f) ?_
     exact ⟨_, 0, 0, _, _, _, hres, rfl, fun _ => zGp _ _ _ _ _ _ f, fun _ => zGq _ _ _ _ _ _ f, fun _ => zGr _ _ _ _ _ _ f, fun _ => zGs _ _ _ _ _ _ f⟩
   | cons ns0 nss =>
    cases ar with
    | nil =>
     refine aI rfl (zAk (q := ([] : List QuX)) (an := (an0 :: ans)) (ns := (ns0 :: nss)) (ar := ([] : List RcX)) rfl rfl rfl rfl rfl rfl rfl rfl rfl rfl rfl (fun f => ?_))
     refine Eq.mpr (zGo _ _ _ _ _ _ _ f) ?_
     exact ⟨_, 0, 0, _, _, _, hres, rfl, fun _ => zGp _ _ _ _ _ _ f, fun _ => zGq _ _ _ _ _ _ f, fun _ => zGr _ _ _ _ _ _ f, fun _ => zGs _ _ _ _ _ _ f⟩
    | cons ar0 ars =>
     refine aI rfl (zAk (q := ([] : List QuX)) (an := (an0 :: ans)) (ns := (ns0 :: nss)) (ar := (ar0 :: ars)) rfl rfl rfl rfl rfl rfl rfl rfl rfl rfl rfl (fun f => ?_))
     refine Eq.mpr (zGo _ _ _ _ _ _ _ f) ?_
     exact ⟨_, 0, 0, _, _, _, hres, rfl, fun _ => zGp _ _ _ _ _ _ f, fun _ => zGq _ _ _ _ _ _ f, fun _ => zGr _ _ _ _ _ _ f, fun _ => zGs _ _ _ _ _ _ f⟩
 | cons q0 qs =>
  cases an with
  | nil =>
   cases ns with
   | nil =>
    cases ar with
    | nil =>
     refine aI rfl (zAk (q := (q0 :: qs)) (an := ([] : List RcX)) (ns := ([] : List RcX)) (ar := ([] : List RcX)) rfl rfl rfl rfl rfl rfl rfl rfl rfl rfl rfl (fun f => ?_))
     refine Eq.mpr (zGo _ _ _ _ _ _ _ f) ?_
     exact ⟨_, 0, 0, _, _, _, hres, rfl, fun _ => zGp _ _ _ _ _ _ f, fun _ => zGq _ _ _ _ _ _ f, fun _ => zGr _ _ _ _ _ _ f, fun _ => zGs _ _ _ _ _ _ f⟩
    | cons ar0 ars =>
     refine aI rfl (zAk (q := (q0 :: qs)) (an := ([] : List RcX)) (ns := ([] : List RcX)) (ar := (ar0 :: ars)) rfl rfl rfl rfl rfl rfl rfl rfl rfl rfl rfl (fun f => ?_))
     refine Eq.mpr (zGo _ _ _ _ _ _ _ f) ?_
     exact ⟨_, 0, 0, _, _, _, hres, rfl, fun _ => zGp _ _ _ _ _ _ f, fun _ => zGq _ _ _ _ _ _ f, fun _ => zGr _ _ _ _ _ _ f, fun _ => zGs _ _ _ _ _ _ f⟩
   | cons ns0 nss =>
    cases ar with
    | nil =>
     refine aI rfl (zAk (q := (q0 :: qs)) (an := ([] : List RcX)) (ns := (ns0 :: nss)) (ar := ([] : List RcX)) rfl rfl rfl rfl rfl rfl rfl rfl rfl rfl rfl (fun f => ?_))
     refine Eq.mpr (zGo _ _ _ _ _ _ _ f) ?_
     exact ⟨_, 0, 0, _, _, _, hres, rfl, fun _ => zGp _ _ _ _ _ _ f, fun _ => zGq _ _ _ _ _ _ f, fun _ => zGr _ _ _ _ _ _ f, fun _ => zGs _ _ _ _ _ _ f⟩
    | cons ar0 ars =>
     refine aI rfl (zAk (q := (q0 :: qs)) (an := ([] : List RcX)) (ns := (ns0 :: nss)) (ar := (ar0 :: ars)) rfl rfl rfl rfl rfl rfl rfl rfl rfl rfl rfl (fun f => ?_))
     refine Eq.mpr (zGo _ _ _ _ _ _ _ f) ?_
     exact ⟨_, 0, 0, _, _, _, hres, rfl, fun _ => zGp _ _ _ _ _ _ f, fun _ => zGq _ _ _ _ _ _ f, fun _ => zGr _ _ _ _ _ _ f, fun _ => zGs _ _ _ _ _ _ f⟩
  | cons an0 ans =>
   cases ns with
   | nil =>
    cases ar with
    | nil =>
     refine aI rfl (zAk (q := (q0 :: qs)) (an := (an0 :: ans)) (ns := ([] : List RcX)) (ar := ([] : List RcX)) rfl rfl rfl rfl rfl rfl rfl rfl rfl rfl rfl (fun f => ?_))
     refine Eq.mpr (zGo _ _ _ _ _ _ _ f) ?_
     exact ⟨_, 0, 0, _, _, _, hres, rfl, fun _ => zGp _ _ _ _ _ _ f, fun _ => zGq _ _ _ _ _ _ f, fun _ => zGr _ _ _ _ _ _ f, fun _ => zGs _ _ _ _ _ _ f⟩
    | cons ar0 ars =>
     refine aI rfl (zAk (q := (q0 :: qs)) (an := (an0 :: ans)) (ns := ([] : List RcX)) (ar := (ar0 :: ars)) rfl rfl rfl rfl rfl rfl rfl rfl rfl rfl rfl (fun f => ?_))
     refine Eq.mpr (zGo _ _ _ _ _ _ _ f) ?_
     exact ⟨_, 0, 0, _, _, _, hres, rfl, fun _ => zGp _ _ _ _ _ _ f, fun _ => zGq _ _ _ _ _ _ f, fun _ => zGr _ _ _ _ _ _ f, fun _ => zGs _ _ _ _ _ _ f⟩
   | cons ns0 nss =>
    cases ar with
    | nil =>
     refine aI rfl (zAk (q := (q0 :: qs)) (an := (an0 :: ans)) (ns := (ns0 :: nss)) (ar := ([] : List RcX)) rfl rfl rfl rfl rfl rfl rfl rfl rfl rfl rfl (fun f => ?_))
     refine Eq.mpr (zGo _ _ _ _ _ _ _ f) ?_
     exact ⟨_, 0, 0, _, _, _, hres, rfl, fun _ => zGp _ _ _ _ _ _ f, fun _ => zGq _ _ _ _ _ _ f, fun _ => zGr _ _ _ _ _ _ f, fun _ => zGs _ _ _ _ _ _ f⟩
    | cons ar0 ars =>
     refine aI rfl (zAk (q := (q0 :: qs)) (an := (an0 :: ans)) (ns := (ns0 :: nss)) (ar := (ar0 :: ars)) rfl rfl rfl rfl rfl rfl rfl rfl rfl rfl rfl (fun f => ?_))
     refine Eq.mpr (zGo _ _ _ _ _ _ _ f) ?_
     exact ⟨_, 0, 0, _, _, _, hres, rfl, fun _ => zGp _ _ _ _ _ _ f, fun _ => zGq _ _ _ _ _ _ f, fun _ => zGr _ _ _ _ _ _ f, fun _ => zGs _ _ _ _ _ _ f⟩
end
section
open Go Go.RowKit
theorem zOv {dp : Prop} {α : Type} {L : Lay α} {H : Tr AObj} {b : Nat} {l : List α} (hz : (Try.prog.info? L.t).map (·.size) = some L.k) (hb : b < JJ) (h : l ≠ [] -> H.get b = lsO L l) : FrzP dp Try.prog 0 H (lsV b l) (treeV L.k l.length (l.flatMap L.g)) := by
 cases l with
 | nil => exact .one _ _ (.nil _)
 | cons x l => exact OwnR.frz (e0 := L.t) hz (.inr ⟨b, rfl, hb, aZ _ _, h (aZ _ _)⟩)
def msgV (m : MsT) (e p : Int) : Value := .tuple #[m.v, .agg #[.int .i64 e, .int .i64 p]]
theorem read_call {f : FuncId} {B : Bl} {v : Value} {H : Tr AObj} (hv : LtL layBy H v B) (hf : ∃ r, FnS Try.prog 0 f [trB B] .e 0 r /\ rmRes B r) (n : Nat) : ∃ u, CallOK Try.prog 0 f [v] H n (.ret u H n []) /\ ∃ m e p, msQ B m e p /\ u = msgV m e p := by
 obtain ⟨r, hF, m, e, p, H', k, wr, hq, rfl, h2, h3, h4, h5⟩ := hf
 refine ⟨msgV m e p, ?_, m, e, p, hq, rfl⟩
 refine zHb hF (.cons _ _ _ _ (LtL.frz (by kernel_rfl) hv) .nil) (.tuple _ _ (.cons _ _ _ _ (.agg _ _ (.cons _ _ _ _ (.one _ _ (.plain _ rfl)) (.cons _ _ _ _ (.one _ _ (.plain _ rfl)) (.cons _ _ _ _ (zOv (by kernel_rfl) (by decide) h2) (.cons _ _ _ _ (zOv (by kernel_rfl) (by decide) h3) (.cons _ _ _ _ (zOv (by kernel_rfl) (by decide) h4) (.cons _ _ _ _ (zOv (by kernel_rfl) (by decide) h5) .nil))))))) (.cons _ _ _ _ (.one _ _ (.plain _ rfl)) .nil)))
noncomputable def cq_msRead (f : FuncId) (hf : ∀ B : Bl, B.length <= 1000000 -> ∃ r, FnS Try.prog 0 f [trB B] .e 0 r /\ rmRes B r) : CtQ Try.prog :=
 { f := f, X := Bl × Value, pre := fun x a H _ => a = [x.2] /\ LtL layBy H x.2 x.1 /\ x.1.length <= 1000000, Q := fun x v => ∃ m e p, msQ x.1 m e p /\ v = msgV m e p,
   ok := fun ⟨B, v⟩ a H n ⟨h1, h2, h3⟩ => by
    subst h1
    exact read_call h2 (hf B h3) n,
   uniq := fun ⟨B, v⟩ ⟨C, u⟩ a H m ⟨h1, h2, _⟩ ⟨k1, k2, _⟩ => by
    rw [h1] at k1
    simp only [aQ, and_true] at k1
    have k1 : v = u := k1
    subst k1
    rw [show B = C from LtL.uniq h2 k2] }
noncomputable def zWy : Ct Try.prog 0 := (cq_msRead 34 msRead_fn).ctY (MsT × Int × Int) (fun y => msgV y.1 y.2.1 y.2.2) (fun (x : Bl × Value) y => msQ x.1 y.1 y.2.1 y.2.2) (fun _ _ ⟨m, e, p, hq, h⟩ => ⟨(m, e, p), h, hq⟩)
end
section
open Go Go.RowKit
theorem Rd.ahead {B : Bl} {a p i : Nat} {out : Bl} {bh lo : Int} {r : RR} (h : Rd B a p i out bh r) (hb : bh = -1 /\ lo <= i \/ 0 <= bh /\ lo + 1 <= bh) : r.e = 0 -> lo + 1 <= r.next := by
 induction h with
 | @zero p i out bh h hc =>
  intro _
  dsimp only
  split
  ·rcases hb with hb | hb <;> omega
  rcases hb with hb | hb <;> omega
 | @ptr p i out bh r h hc h2 h3 hr ih =>
  refine ih ?_
  split
  ·refine .inr ⟨by omega, ?_⟩
   rcases hb with hb | hb <;> omega
  rcases hb with hb | hb
  ·omega
  exact .inr hb
 | @lab p i out bh r h hc hc2 h2 h3 hr ih =>
  refine ih ?_
  rcases hb with hb | hb
  ·exact .inl ⟨hb.1, by omega⟩
  exact .inr hb
 | _ => intro e; cases e
theorem rdOk.ahead {B : Bl} {x : Int} {r : RR} (h : rdOk B x r) (he : r.e = 0) : x + 1 <= r.next := by
 rcases h with ⟨_, rfl⟩ | ⟨a, rfl, h1, h2⟩
 ·cases he
 exact h2.ahead (.inl ⟨rfl, Int.le_refl _⟩) he
theorem queQ.ahead {B : Bl} {a : Int} {x : QuX} {nx p : Int} (h : queQ B a (quT (x, nx, 0, p))) : a + 5 <= nx := by
 generalize hv : quT (x, nx, 0, p) = v at h
 cases h with
 | @name r h he =>
  have hv : quT (x, nx, 0, p) = quT (⟨⟨#[]⟩, 0, 0⟩, 0, r.e, r.pos) := hv
  obtain ⟨_, _, h0, _⟩ := zDy hv
  exact ab h0.symm he
 | short h he hk hl2 =>
  have hv : quT (x, nx, 0, p) = quT (⟨⟨#[]⟩, 0, 0⟩, 0, 4, (B.length : Int)) := hv
  obtain ⟨_, _, h0, _⟩ := zDy hv
  exact ab h0 (by decide)
 | @fine r k h he hk hl2 =>
  have hv : quT (x, nx, 0, p) = quT (⟨mkS r.s, numAt B k 2, numAt B (k + 2) 2⟩, ((k + 4 : Nat) : Int), 0, 0) := hv
  obtain ⟨_, rfl, _, _⟩ := zDy hv
  have := h.ahead he
  omega
theorem recQ.ahead {B : Bl} {a : Int} {x : RcX} {nx p : Int} (h : recQ B a (rcT (x, nx, 0, p))) : a + 5 <= nx := by
 generalize hv : rcT (x, nx, 0, p) = v at h
 cases h with
 | @name r h he =>
  have hv : rcT (x, nx, 0, p) = rcT (⟨⟨#[]⟩, 0, 0, 0, ⟨#[]⟩⟩, 0, r.e, r.pos) := hv
  obtain ⟨_, _, h0, _⟩ := zDi hv
  exact ab h0.symm he
 | short h he hk hl2 =>
  have hv : rcT (x, nx, 0, p) = rcT (⟨⟨#[]⟩, 0, 0, 0, ⟨#[]⟩⟩, 0, 4, (B.length : Int)) := hv
  obtain ⟨_, _, h0, _⟩ := zDi hv
  exact ab h0 (by decide)
 | @data r k y h he hk hl2 hy hf =>
  have hv : rcT (x, nx, 0, p) = rcT (⟨⟨#[]⟩, 0, 0, 0, ⟨#[]⟩⟩, 0, y.2.1, y.2.2) := hv
  obtain ⟨_, _, h0, _⟩ := zDi hv
  exact ab h0.symm hf
 | @fine r k y h he hk hl2 hy hf =>
  have hv : rcT (x, nx, 0, p) = rcT (⟨mkS r.s, numAt B k 2, numAt B (k + 2) 2, (if numAt B (k + 4) 4 > 2147483647 then 0 else (numAt B (k + 4) 4 : Int)), mkS y.1⟩, ((k + 10 : Nat) : Int) + (numAt B (k + 8) 2 : Int), 0, 0) := hv
  obtain ⟨_, rfl, _, _⟩ := zDi hv
  have := h.ahead he
  omega
theorem mrQ.num {B : Bl} {nq : Nat} {l : List MwI} {a : Int} (h : mrQ B nq l a) : 12 + 5 * (l.length : Int) <= a := by
 induction h with
 | nil => decide
 | q h hl hq ih => have := hq.ahead; rw [aB, List.length_singleton]; omega
 | r h hl hr ih => have := hr.ahead; rw [aB, List.length_singleton]; omega
theorem chk_ok {m : MsT} (h : m.chk = 0) : m.okM := by
 obtain ⟨hq, ha, hn, hr⟩ := zUv h
 have rok : ∀ x : RcX, recC x = 0 -> x.ok = true := fun x hx => by
  unfold recC at hx
  split at hx
  ·exact ab hx (by assumption)
  rename_i hl
  have hl := zGi (Decidable.not_not.1 hl)
  split at hx
  ·have hd := (zDz hx).2.2.1
   unfold RcX.ok
   rw [bL (by rw [zAd]; omega), bL (by rw [zAd]; omega)]; rfl
  cases hx
 refine ⟨fun x hx => ?_, fun x hx => rok x (ha x hx), fun x hx => rok x (hn x hx), fun x hx => rok x (hr x hx)⟩
 have hx := hq x hx
 unfold quC at hx
 split at hx
 ·exact ab hx (by assumption)
 rename_i hl
 have hl := zGi (Decidable.not_not.1 hl)
 exact bL (by rw [zAd]; omega)
theorem msQ.good {B : Bl} {m : MsT} {e p : Int} (h : msQ B m e p) (he : e = 0) : p = 0 /\ (12 <= B.length /\ B.length <= 65535) /\ mrQ B (numAt B 4 2) m.items (B.length : Nat) /\ MsFit B m := by
 cases h with
 | long h => cases he
 | short h => cases he
 | fault h hl ht hb h0 => exact ab he h0
 | rest h => cases he
 | fine h hl hf => exact ⟨rfl, h, hl, hf⟩
theorem zOw {B : Bl} {m : MsT} {p : Int} (h : msQ B m 0 p) (hB : B.length <= 5000) : msQ B m 0 0 /\ m.fit 1000 /\ m.okM /\ m.chk = 0 := by
 obtain ⟨rfl, h1, h2, h3⟩ := h.good rfl
 have hc := msg_may h
 refine ⟨h, ?_, chk_ok hc, hc⟩
 have hn := h2.num
 rw [zQt] at hn
 exact ⟨by omega, by omega, by omega, by omega⟩
theorem zFn {B : Bl} {m : MsT} (h : msQ B m 0 0) : 12 <= B.length /\ B.length <= 65535 /\ m.id = (numAt B 0 2 : Nat) /\ m.fl = (numAt B 2 2 : Nat) := by
 obtain ⟨_, h1, _, h3⟩ := h.good rfl
 exact ⟨h1.1, h1.2, h3.id, h3.fl⟩
theorem MsT.big_ok3 {m : MsT} {n : Int} (h : m.big n 3000 = false) : m.okM := by
 unfold MsT.big at h
 simp only [Bool.or_eq_false_iff] at h
 obtain ⟨_, hq, ha, hn, hr⟩ := h
 have rok : ∀ (l : List RcX), l.any (bigR 3000) = false -> ∀ x ∈ l, x.ok = true := fun l hl x hx => by
  have := List.any_eq_false.1 hl x hx
  unfold bigR at this
  simp only [Bool.or_eq_true, dT, not_or] at this
  obtain ⟨h1, h2⟩ := this
  unfold RcX.ok
  rw [bL (by omega), bL (by omega)]; rfl
 refine ⟨fun x hx => ?_, rok _ ha, rok _ hn, rok _ hr⟩
 have := List.any_eq_false.1 hq x hx
 unfold bigQ at this
 simp only [dT] at this
 exact bL (by omega)
noncomputable def tbHd : Tb Try.prog 0 := tbOf mixed [zQc]
theorem head_tr (B : Bl) (h : 12 <= B.length /\ B.length <= 1000000) : ∃ v H k wr, FnS Try.prog 0 36 [trB B] .e 0 (.ret v H k wr) /\ FrzP False Try.prog 0 H v (.tuple #[.int .i64 (numAt B 0 2 : Nat), .int .i64 (numAt B 2 2 : Nat), .bool true]) := by
 have hne : B ≠ [] := fun e => by rw [e] at h; exact ab h.1 (by decide)
 suffices hs : ∃ r, FnS Try.prog 0 36 [trB B] .e 0 r /\ ∃ H k wr, r = .ret (.tuple #[.int .i64 (numAt B 0 2 : Nat), .int .i64 (numAt B 2 2 : Nat), .bool true]) H k wr by
  obtain ⟨r, hF, H, k, wr, rfl⟩ := hs
  exact ⟨_, H, k, wr, hF, .one _ _ (.plain _ rfl)⟩
 refine zBp mixed tbHd [] Try.func36 (c := bodyOf Try.f36) (by kernel_rfl) ?_
 refine ifK (fun g => ab (oT g) (by omega)) (fun _ => ?_)
 refine eI (B, (0 : Int)) (aI ⟨rfl, hne, h.2, (show (0 : Int) <= 0 by decide), by show 0 + 2 <= B.length; omega⟩ ?_)
 refine eI (B, (2 : Int)) (aI ⟨rfl, hne, h.2, (show (0 : Int) <= 2 by decide), by show 2 + 2 <= B.length; omega⟩ ?_)
 exact ⟨_, _, _, rfl⟩
noncomputable def ct_headL : Ct Try.prog 0 := CtR.lend 36 (Bl × Value) (fun x => [x.2]) (fun x H => LtL layBy H x.2 x.1) (fun x => [trB x.1]) (fun x => 12 <= x.1.length /\ x.1.length <= 1000000) (fun x => .tuple #[.int .i64 (numAt x.1 0 2 : Nat), .int .i64 (numAt x.1 2 2 : Nat), .bool true])
 (fun ⟨B, v⟩ ⟨C, u⟩ H e h k => by
  simp only [aQ, and_true] at e
  have e : v = u := e
  subst e
  rw [show B = C from LtL.uniq h k]) (fun x H h => .cons _ _ _ _ (LtL.frz (by kernel_rfl) h) .nil) (fun x h => head_tr x.1 h)
end
section
open Go Go.RowKit
noncomputable def tbCb : Tb Try.prog 0 := tbOf mixed []
theorem copyB_tr (u : UInt8) (us : Bl) (hl : us.length + 1 <= 1000000) : ∃ r, FnS Try.prog 0 39 [trB (u :: us)] .e 0 r /\ ∃ H k wr b, r = .ret (.slice (some ⟨b, 0, none⟩) (us.length + 1) U) H k wr /\ b < JJ /\ H.get b = some (.cells ((u :: us).map byV) 5) := by
 refine zBp mixed tbCb [] Try.func39 (c := bodyOf Try.f39) (by kernel_rfl) ?_
 have hby : (Try.prog.types[5]).bytes = 1 := by kernel_rfl
 refine aI (by rw [hby]; simp only [bA, dT, aC]; omega) ?_
 refine ⟨_, _, _, 1, congrArg (fun n => Res.ret (.slice (some ⟨1, 0, none⟩) n U) _ _ _) (aS _), by decide, ?_⟩
 rw [<- zCo]; rfl
noncomputable def ct_copyBL : Ct Try.prog 0 :=
 CtR.ct { f := 39, X := UInt8 × Bl × Value, pre := fun x a H _ => a = [x.2.2] /\ LtL layBy H x.2.2 (x.1 :: x.2.1) /\ x.2.1.length + 1 <= 1000000, out := fun x H n => .ret (.slice (some ⟨n, 0, none⟩) (x.2.1.length + 1) U) (layN H n [((x.1 :: x.2.1).map byV, 5)]) (n + 1) [],
          ok := fun ⟨u, us, v⟩ a H n ⟨h1, h2, h3⟩ => by
           subst h1
           obtain ⟨r, hF, H', k, wr, b, rfl, hb, hg⟩ := copyB_tr u us h3
           exact zJj (fun n => .slice (some ⟨n, 0, none⟩) (us.length + 1) U) [b] [((u :: us).map byV, 5)] hF (.cons _ _ _ _ (LtL.frz (by kernel_rfl) h2) .nil) (by simp) (fun x hx => by simp at hx; subst hx; exact hb) rfl
            (fun i b' xs e hb hc => by
             match i, hb, hc with
             | 0, hb, hc => cases hb; cases hc; exact ⟨[], by rw [aF]; exact hg, zAb _, .inl rfl⟩
             | i + 1, hb, hc => simp at hb)
            (fun n => .sl _ _ _ _ _ (zEu (i := 0) (by simp) rfl)),
          uniq := fun ⟨u, us, v⟩ ⟨u', us', v'⟩ a H n ⟨h1, h2, _⟩ ⟨k1, k2, _⟩ => by
           rw [h1] at k1
           simp only [aQ, and_true] at k1
           have k1 : v = v' := k1
           subst k1
           have e := LtL.uniq h2 k2
           simp only [aQ] at e
           obtain ⟨rfl, rfl⟩ := e
           rfl }
end
section
open Go Go.Joins Go.ChangeShapes Go.WideShapes Go.RowKit Go.Deep
section
variable {H : Type} {enc : TypeId × Value -> H} {w : World} {base : Nat} {spare : Nat -> Bool} {held : Bool}
theorem zHi {n : Nat} {c : Value} {y : DataW H × List MemPlace} (h : DataW.trod enc Try.prog w base spare held n 3 [c] = some y) : ∃ x : Int, c = .int .i64 x := by
 obtain ⟨a, e, _⟩ := DataW.trod_int Try.underlying3 h
 simp only [aQ, and_true] at e
 exact ⟨a, e⟩
theorem zUi {n : Nat} {c : Value} {y : DataW H × List MemPlace} (h : DataW.trod enc Try.prog w base spare held n 9 [c] = some y) : ∃ x : ByteArray, c = .string x := by
 obtain ⟨a, e, _⟩ := DataW.trod_string Try.underlying9 h
 simp only [aQ, and_true] at e
 exact ⟨a, e⟩
theorem zUh {n : Nat} {cs : List Value} {y : DataW H × List MemPlace} (h : DataW.trod enc Try.prog w base spare held n 69 cs = some y) : ∃ x : RcX, cs = layR.g x := by
 obtain ⟨_, _, _, _, hl, _⟩ := DataW.trod_struct Try.underlying69 h
 have hl : cs.length = 5 := hl.trans (by kernel_rfl)
 have hf := zKz 8 69 [9, 3, 3, 3, 9] n cs y (by kernel_rfl) h hl
 match cs, hl with
 | [c0, c1, c2, c3, c4], _ =>
  obtain ⟨_, _, h0⟩ := hf 0 _ _ rfl rfl
  obtain ⟨_, _, h1⟩ := hf 1 _ _ rfl rfl
  obtain ⟨_, _, h2⟩ := hf 2 _ _ rfl rfl
  obtain ⟨_, _, h3⟩ := hf 3 _ _ rfl rfl
  obtain ⟨_, _, h4⟩ := hf 4 _ _ rfl rfl
  obtain ⟨x0, rfl⟩ := zUi h0
  obtain ⟨x1, rfl⟩ := zHi h1
  obtain ⟨x2, rfl⟩ := zHi h2
  obtain ⟨x3, rfl⟩ := zHi h3
  obtain ⟨x4, rfl⟩ := zUi h4
  exact ⟨⟨x0, x1, x2, x3, x4⟩, rfl⟩
theorem trod_qu {n : Nat} {cs : List Value} {y : DataW H × List MemPlace} (h : DataW.trod enc Try.prog w base spare held n 57 cs = some y) : ∃ x : QuX, cs = layQ.g x := by
 obtain ⟨_, _, _, _, hl, _⟩ := DataW.trod_struct Try.underlying57 h
 have hl : cs.length = 3 := hl.trans (by kernel_rfl)
 have hf := zKz 8 57 [9, 3, 3] n cs y (by kernel_rfl) h hl
 match cs, hl with
 | [c0, c1, c2], _ =>
  obtain ⟨_, _, h0⟩ := hf 0 _ _ rfl rfl
  obtain ⟨_, _, h1⟩ := hf 1 _ _ rfl rfl
  obtain ⟨_, _, h2⟩ := hf 2 _ _ rfl rfl
  obtain ⟨x0, rfl⟩ := zUi h0
  obtain ⟨x1, rfl⟩ := zHi h1
  obtain ⟨x2, rfl⟩ := zHi h2
  exact ⟨⟨x0, x1, x2⟩, rfl⟩
def msTypes : List TypeId := [3, 3, 22, 23, 23, 23]
end
end
section
open Go Go.RowKit
end
end Go.Proofs.Ytcggcoijhdagnaa
