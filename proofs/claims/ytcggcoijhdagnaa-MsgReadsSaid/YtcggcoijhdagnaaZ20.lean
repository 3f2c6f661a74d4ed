/- DERIVED. Parts. -/
import Derived.Test.YtcggcoijhdagnaaZ12
import Derived.Test.YtcggcoijhdagnaaZ13
import Derived.Test.YtcggcoijhdagnaaZ15
import Derived.Test.YtcggcoijhdagnaaZ19
set_option maxRecDepth 1000000
set_option maxHeartbeats 32000000
namespace Go.Proofs.Ytcggcoijhdagnaa
section
open Go Go.RowKit
theorem zNq {l l' : Bl} (h : trB l = trB l') : l = l' := zDg layBy h
theorem treeW_rel {f : FuncId} {l : Bl} {xs : List Value} {Q : Value -> Prop} (hn : l ≠ []) (hxs : plainL xs = true) (det : ∀ v v', Q v -> Q v' -> v = v')
  (hF : ∀ c, (c = U \/ l.length <= c /\ c <= 9223372036854775807) -> ∃ r, FnS Try.prog 0 f (.slice (some ⟨0, 0, none⟩) l.length c :: xs) (heap 1 [(0, .win (l.map byV) 1)]) 1 r /\ ∃ v H m wr, r = .ret v H m wr /\ (∀ k ∈ wr, 1 <= k) /\ plainV 8 v = true /\ Q v) (H : Tr AObj) (n : Nat) :
  ∃ v, CallOK Try.prog 0 f (trB l :: xs) H n (.ret v H n []) /\ Q v := by
 obtain ⟨_, _, v, _, _, _, _, _, hp, hq⟩ := hF U (.inl rfl)
 refine ⟨v, zIl hn hxs hp (fun c h1 h2 => ?_) H n, hq⟩
 obtain ⟨r, hF, v', H', m, wr, rfl, hw, _, hq'⟩ := hF c (.inr ⟨h1, h2⟩)
 rw [det v' v hq' hq] at hF
 exact ⟨H', m, wr, hF, hw⟩
noncomputable def zMl (f : FuncId) (Q : Bl -> Int -> Value -> Prop) (det : ∀ l i v v', Q l i v -> Q l i v' -> v = v')
  (hF : ∀ (l : Bl) (o n c : Nat) (i : Int), o + n <= l.length -> n <= 1000000 -> (c = U \/ n <= c /\ c <= 9223372036854775807) -> ∃ r, FnS Try.prog 0 f [.slice (some ⟨0, o, none⟩) n c, .int .i64 i] (heap 1 [(0, .win (l.map byV) 1)]) 1 r /\ ∃ v H m wr, r = .ret v H m wr /\ (∀ k ∈ wr, 1 <= k) /\ plainV 8 v = true /\ Q ((l.drop o).take n) i v) : CtQ Try.prog :=
 { f := f, X := Bl × Int, pre := fun x a _ _ => a = [trB x.1, .int .i64 x.2] /\ x.1 ≠ [] /\ x.1.length <= 1000000, Q := fun x v => Q x.1 x.2 v,
   ok := fun ⟨l, i⟩ a H n ⟨h1, h2, h3⟩ => by
    subst h1
    have h3 : l.length <= 1000000 := h3
    refine treeW_rel (Q := Q l i) h2 rfl (det l i) (fun c hc => ?_) H n
    have := hF l 0 l.length c i (by omega) h3 hc
    rw [List.drop_zero, List.take_length] at this
    exact this,
   uniq := fun ⟨x, i⟩ ⟨y, j⟩ a H m ⟨h1, _⟩ ⟨k1, _⟩ => by
    rw [h1] at k1
    simp only [aQ, Value.int.injEq, true_and, and_true] at k1
    rw [zNq k1.1, k1.2] }
def rcT (y : RcX × Int × Int × Int) : Value := .tuple #[.agg #[.string y.1.n, .int .i64 y.1.t, .int .i64 y.1.c, .int .i64 y.1.ttl, .string y.1.d], .int .i64 y.2.1, .agg #[.int .i64 y.2.2.1, .int .i64 y.2.2.2]]
def quT (y : QuX × Int × Int × Int) : Value := .tuple #[.agg #[.string y.1.n, .int .i64 y.1.t, .int .i64 y.1.c], .int .i64 y.2.1, .agg #[.int .i64 y.2.2.1, .int .i64 y.2.2.2]]
theorem zTx {B : Bl} {a : Int} {v : Value} (h : recQ B a v) : ∃ y, v = rcT y /\ recQ B a (rcT y) := by
 have : ∃ y, v = rcT y := by
  cases h with
  | name h he => exact ⟨(⟨⟨#[]⟩, 0, 0, 0, ⟨#[]⟩⟩, 0, _, _), rfl⟩
  | short h he hk hl => exact ⟨(⟨⟨#[]⟩, 0, 0, 0, ⟨#[]⟩⟩, 0, _, _), rfl⟩
  | data h he hk hl hy hf => exact ⟨(⟨⟨#[]⟩, 0, 0, 0, ⟨#[]⟩⟩, 0, _, _), rfl⟩
  | fine h he hk hl hy hf => exact ⟨(⟨_, _, _, _, _⟩, _, 0, 0), rfl⟩
 obtain ⟨y, rfl⟩ := this
 exact ⟨y, rfl, h⟩
theorem zTv {B : Bl} {a : Int} {v : Value} (h : queQ B a v) : ∃ y, v = quT y /\ queQ B a (quT y) := by
 have : ∃ y, v = quT y := by
  cases h with
  | name h he => exact ⟨(⟨⟨#[]⟩, 0, 0⟩, 0, _, _), rfl⟩
  | short h he hk hl => exact ⟨(⟨⟨#[]⟩, 0, 0⟩, 0, _, _), rfl⟩
  | fine h he hk hl => exact ⟨(⟨_, _, _⟩, _, 0, 0), rfl⟩
 obtain ⟨y, rfl⟩ := this
 exact ⟨y, rfl, h⟩
noncomputable def zOd : Ct Try.prog 0 := (zMl 62 queQ (fun _ _ _ _ h k => h.det k) zRu).ctY (QuX × Int × Int × Int) quT (fun (x : Bl × Int) y => queQ x.1 x.2 (quT y)) (fun _ _ h => zTv h)
noncomputable def zQl : Ct Try.prog 0 := (zMl 63 recQ (fun _ _ _ _ h k => h.det k) zVn).ctY (RcX × Int × Int × Int) rcT (fun (x : Bl × Int) y => recQ x.1 x.2 (rcT y)) (fun _ _ h => zTx h)
noncomputable def zMn : Ct Try.prog 0 := (zMl 65 queQ (fun _ _ _ _ h k => h.det k) zPg).ctY (QuX × Int × Int × Int) quT (fun (x : Bl × Int) y => queQ x.1 x.2 (quT y)) (fun _ _ h => zTv h)
noncomputable def zOg : Ct Try.prog 0 := (zMl 89 recQ (fun _ _ _ _ h k => h.det k) zRx).ctY (RcX × Int × Int × Int) rcT (fun (x : Bl × Int) y => recQ x.1 x.2 (rcT y)) (fun _ _ h => zTx h)
noncomputable def ct_getT (f : FuncId) (hF : ∀ (l : Bl) (c : Nat) (i : Int), l.length <= 1000000 -> (c = U \/ l.length <= c /\ c <= 9223372036854775807) -> ∃ r, FnS Try.prog 0 f [.slice (some ⟨0, 0, none⟩) l.length c, .int .i64 i] (heap 1 [(0, .win (l.map byV) 1)]) 1 r /\ ∃ H m wr, r = .ret (getOut l 0 l.length i 2) H m wr /\ ∀ k ∈ wr, 1 <= k) : Ct Try.prog 0 :=
 CtR.ct { f := f, X := Bl × Int, pre := fun x a _ _ => a = [trB x.1, .int .i64 x.2] /\ x.1 ≠ [] /\ x.1.length <= 1000000 /\ 0 <= x.2 /\ x.2.toNat + 2 <= x.1.length, out := fun x H n => .ret (.tuple #[.int .i64 (beN ((x.1.drop x.2.toNat).take 2) : Int), .int .i64 ((x.2.toNat + 2 : Nat) : Int), .agg #[.int .i64 0, .int .i64 0]]) H n [],
          ok := fun ⟨l, i⟩ a H n ⟨h1, h2, h3, h4, h5⟩ => by
           subst h1
           have h3 : l.length <= 1000000 := h3
           have h5 : i.toNat + 2 <= l.length := h5
           have h4 : 0 <= i := h4
           have e : getOut l 0 l.length i 2 = .tuple #[.int .i64 (beN ((l.drop i.toNat).take 2) : Int), .int .i64 ((i.toNat + 2 : Nat) : Int), .agg #[.int .i64 0, .int .i64 0]] := by
            unfold getOut
            rw [if_neg (by omega), if_pos h5, aS]
           show CallOK Try.prog 0 f _ H n _
           refine zIl h2 rfl rfl (fun c q1 q2 => ?_) H n
           obtain ⟨r, hF, H', m, wr, rfl, hw⟩ := hF l c i h3 (.inr ⟨q1, q2⟩)
           rw [e] at hF
           exact ⟨H', m, wr, hF, hw⟩,
          uniq := fun ⟨x, i⟩ ⟨y, j⟩ a H m ⟨h1, _⟩ ⟨k1, _⟩ => by
           rw [h1] at k1
           simp only [aQ, Value.int.injEq, true_and, and_true] at k1
           rw [show x = y from zNq k1.1, show i = j from k1.2] }
noncomputable def zOc : Ct Try.prog 0 := ct_getT 61 (fun l c i h _ => zTg l 0 l.length c i (by omega) (by omega))
noncomputable def zLk : Ct Try.prog 0 := ct_getT 64 (fun l c i h hc => zPe l 0 l.length c i (by omega) (by omega) hc)
end
section
open Go Go.RowKit
end
section
open Go Go.RowKit
inductive mrQ (B : Bl) (nq : Nat) : List MwI -> Int -> Prop
 | nil : mrQ B nq [] 12
 | q {l : List MwI} {a : Int} {x : QuX} {nx p : Int} (h : mrQ B nq l a) (hl : l.length < nq) (hq : queQ B a (quT (x, nx, 0, p))) : mrQ B nq (l ++ [.inl x]) nx
 | r {l : List MwI} {a : Int} {x : RcX} {nx p : Int} (h : mrQ B nq l a) (hl : nq <= l.length) (hr : recQ B a (rcT (x, nx, 0, p))) : mrQ B nq (l ++ [.inr x]) nx
theorem zGj {x y : RcX} {a b c d e f : Int} (h : rcT (x, a, b, c) = rcT (y, d, e, f)) : x = y /\ a = d /\ b = e /\ c = f := by
 obtain ⟨n, t, k, u, w⟩ := x
 obtain ⟨n', t', k', u', w'⟩ := y
 simp only [rcT, Value.tuple.injEq, Array.mk.injEq, aQ, Value.agg.injEq, Value.string.injEq, Value.int.injEq, true_and, and_true] at h
 obtain ⟨⟨rfl, rfl, rfl, rfl, rfl⟩, rfl, rfl, rfl⟩ := h
 exact ⟨rfl, rfl, rfl, rfl⟩
theorem zIa {x y : QuX} {a b c d e f : Int} (h : quT (x, a, b, c) = quT (y, d, e, f)) : x = y /\ a = d /\ b = e /\ c = f := by
 obtain ⟨n, t, k⟩ := x
 obtain ⟨n', t', k'⟩ := y
 simp only [quT, Value.tuple.injEq, Array.mk.injEq, aQ, Value.agg.injEq, Value.string.injEq, Value.int.injEq, true_and, and_true] at h
 obtain ⟨⟨rfl, rfl, rfl⟩, rfl, rfl, rfl⟩ := h
 exact ⟨rfl, rfl, rfl, rfl⟩
theorem mrQ.det {B : Bl} {nq : Nat} : ∀ (n : Nat) {l l' : List MwI} {a a' : Int}, l.length = n -> l'.length = n -> mrQ B nq l a -> mrQ B nq l' a' -> l = l' /\ a = a'
 | 0, l, l', a, a', h, h', k, k' => by
  have h := List.length_eq_zero_iff.1 h
  have h' := List.length_eq_zero_iff.1 h'
  cases k with
  | nil => cases k' with
   | nil => exact ⟨rfl, rfl⟩
   | q => simp at h'
   | r => simp at h'
  | q => simp at h
  | r => simp at h
 | n + 1, l, l', a, a', h, h', k, k' => by
  cases k with
  | nil => simp at h
  | q k hl hq =>
   rw [aB, List.length_singleton] at h
   cases k' with
   | nil => simp at h'
   | q k' hl' hq' =>
    rw [aB, List.length_singleton] at h'
    obtain ⟨rfl, rfl⟩ := mrQ.det n (by omega) (by omega) k k'
    obtain ⟨rfl, rfl, _, _⟩ := zIa (hq.det hq')
    exact ⟨rfl, rfl⟩
   | r k' hl' hr' =>
    rw [aB, List.length_singleton] at h'
    omega
  | r k hl hr =>
   rw [aB, List.length_singleton] at h
   cases k' with
   | nil => simp at h'
   | q k' hl' hq' =>
    rw [aB, List.length_singleton] at h'
    omega
   | r k' hl' hr' =>
    rw [aB, List.length_singleton] at h'
    obtain ⟨rfl, rfl⟩ := mrQ.det n (by omega) (by omega) k k'
    obtain ⟨rfl, rfl, _, _⟩ := zGj (hr.det hr')
    exact ⟨rfl, rfl⟩
def mrBad (B : Bl) (nq : Nat) (l : List MwI) (a e p : Int) : Prop := (l.length < nq /\ ∃ x nx, queQ B a (quT (x, nx, e, p))) \/ (nq <= l.length /\ ∃ x nx, recQ B a (rcT (x, nx, e, p)))
theorem mrQ.more {B : Bl} {nq : Nat} {l l' : List MwI} {a a' e p : Int} (h : mrQ B nq l a) (k : mrQ B nq l' a') (hl : l.length < l'.length) (hb : mrBad B nq l a e p) : e = 0 := by
 induction k with
 | nil => simp at hl
 | q k hk hq ih =>
  rw [aB, List.length_singleton] at hl
  by_cases hz : l.length < (List.length ‹List MwI›)
  ·exact ih hz
  obtain ⟨rfl, rfl⟩ := mrQ.det _ rfl (by omega) h k
  rcases hb with ⟨_, x, nx, hb⟩ | ⟨h1, _⟩
  ·exact (zIa (hb.det hq)).2.2.1
  omega
 | r k hk hr ih =>
  rw [aB, List.length_singleton] at hl
  by_cases hz : l.length < (List.length ‹List MwI›)
  ·exact ih hz
  obtain ⟨rfl, rfl⟩ := mrQ.det _ rfl (by omega) h k
  rcases hb with ⟨h1, _⟩ | ⟨_, x, nx, hb⟩
  ·omega
  exact (zGj (hb.det hr)).2.2.1
def zM : MsT := ⟨0, 0, [], [], [], []⟩
def totB (B : Bl) : Nat := numAt B 4 2 + (numAt B 6 2 + (numAt B 8 2 + numAt B 10 2))
structure MsFit (B : Bl) (m : MsT) : Prop where
 id : m.id = (numAt B 0 2 : Nat)
 fl : m.fl = (numAt B 2 2 : Nat)
 q : m.q.length = numAt B 4 2
 an : m.an.length = numAt B 6 2
 ns : m.ns.length = numAt B 8 2
 ar : m.ar.length = numAt B 10 2
inductive msQ (B : Bl) : MsT -> Int -> Int -> Prop
 | long (h : 65535 < B.length) : msQ B zM 3 0
 | short (h : B.length < 12) : msQ B zM 4 (B.length : Nat)
 | fault {l : List MwI} {a e p : Int} (h : 12 <= B.length /\ B.length <= 65535) (hl : mrQ B (numAt B 4 2) l a) (ht : l.length < totB B) (hb : mrBad B (numAt B 4 2) l a e p) (he : e ≠ 0) : msQ B zM e p
 | rest {l : List MwI} {a : Int} (h : 12 <= B.length /\ B.length <= 65535) (hl : mrQ B (numAt B 4 2) l a) (ht : l.length = totB B) (ha : a ≠ (B.length : Nat)) : msQ B zM 4 a
 | fine {m : MsT} (h : 12 <= B.length /\ B.length <= 65535) (hl : mrQ B (numAt B 4 2) m.items (B.length : Nat)) (hf : MsFit B m) : msQ B m 0 0
theorem items_len (m : MsT) : m.items.length = m.q.length + (m.an.length + (m.ns.length + m.ar.length)) := by unfold MsT.items; simp
theorem MsFit.tot {B : Bl} {m : MsT} (h : MsFit B m) : m.items.length = totB B := by rw [items_len, h.q, h.an, h.ns, h.ar]; rfl
theorem inl_inj {l l' : List QuX} (h : l.map (Sum.inl (β := RcX)) = l'.map .inl) : l = l' := by
 have := congrArg (List.filterMap (fun x : MwI => match x with | .inl q => some q | .inr _ => none)) h
 simpa [List.filterMap_map, Function.comp_def] using this
theorem zQt {l l' : List RcX} (h : l.map (Sum.inr (α := QuX)) = l'.map .inr) : l = l' := by
 have := congrArg (List.filterMap (fun x : MwI => match x with | .inr q => some q | .inl _ => none)) h
 simpa [List.filterMap_map, Function.comp_def] using this
theorem MsFit.uniq {B : Bl} {m m' : MsT} (h : MsFit B m) (k : MsFit B m') (e : m.items = m'.items) : m = m' := by
 obtain ⟨i, f, q, an, ns, ar⟩ := m
 obtain ⟨i', f', q', an', ns', ar'⟩ := m'
 obtain ⟨h1, h2, h3, h4, h5, h6⟩ := h
 obtain ⟨k1, k2, k3, k4, k5, k6⟩ := k
 simp only at h1 h2 h3 h4 h5 h6 k1 k2 k3 k4 k5 k6
 have e : q.map Sum.inl ++ (an.map Sum.inr ++ (ns.map Sum.inr ++ ar.map Sum.inr)) = q'.map Sum.inl ++ (an'.map Sum.inr ++ (ns'.map Sum.inr ++ ar'.map Sum.inr)) := e
 obtain ⟨e1, e⟩ := List.append_inj e (by simp; omega)
 obtain ⟨e2, e⟩ := List.append_inj e (by simp; omega)
 obtain ⟨e3, e4⟩ := List.append_inj e (by simp; omega)
 rw [h1, k1.symm, h2, k2.symm, inl_inj e1, zQt e2, zQt e3, zQt e4]
theorem msQ.det {B : Bl} {m m' : MsT} {e p e' p' : Int} (h : msQ B m e p) (k : msQ B m' e' p') : m = m' /\ e = e' /\ p = p' := by
 cases h with
 | long h => cases k with
  | long => exact ⟨rfl, rfl, rfl⟩
  | short k => omega
  | fault k => omega
  | rest k => omega
  | fine k => omega
 | short h => cases k with
  | long k => omega
  | short k => exact ⟨rfl, rfl, rfl⟩
  | fault k => omega
  | rest k => omega
  | fine k => omega
 | fault h hl ht hb he => cases k with
  | long k => omega
  | short k => omega
  | fault k kl kt kb ke =>
   rename_i l a l' a'
   have hlen : l.length = l'.length := by
    rcases Nat.lt_trichotomy l.length l'.length with q | q | q
    ·exact ab (hl.more kl q hb) he
    ·exact q
    exact ab (kl.more hl q kb) ke
   obtain ⟨rfl, rfl⟩ := mrQ.det _ hlen rfl hl kl
   rcases hb with ⟨h1, x, nx, hb⟩ | ⟨h1, x, nx, hb⟩ <;> rcases kb with ⟨k1, y, ny, kb⟩ | ⟨k1, y, ny, kb⟩
   ·obtain ⟨_, _, rfl, rfl⟩ := zIa (hb.det kb); exact ⟨rfl, rfl, rfl⟩
   ·omega
   ·omega
   obtain ⟨_, _, rfl, rfl⟩ := zGj (hb.det kb); exact ⟨rfl, rfl, rfl⟩
  | rest k kl kt ka => exact ab (hl.more kl (by omega) hb) he
  | fine k kl kf => exact ab (hl.more kl (by rw [kf.tot]; exact ht) hb) he
 | rest h hl ht ha => cases k with
  | long k => omega
  | short k => omega
  | fault k kl kt kb ke => exact ab (kl.more hl (by omega) kb) ke
  | rest k kl kt ka => obtain ⟨_, rfl⟩ := mrQ.det _ ht kt hl kl; exact ⟨rfl, rfl, rfl⟩
  | fine k kl kf => obtain ⟨_, rfl⟩ := mrQ.det _ ht kf.tot hl kl; exact ab rfl ha
 | fine h hl hf => cases k with
  | long k => omega
  | short k => omega
  | fault k kl kt kb ke => exact ab (kl.more hl (by rw [hf.tot]; exact kt) kb) ke
  | rest k kl kt ka => obtain ⟨_, rfl⟩ := mrQ.det _ hf.tot kt hl kl; exact ab rfl ka
  | fine k kl kf => obtain ⟨e, _⟩ := mrQ.det _ hf.tot kf.tot hl kl; exact ⟨hf.uniq kf e, rfl, rfl⟩
end
section
open Go Go.RowKit
noncomputable def tbRm2 : Tb Try.prog 0 := tbOf mixed [zOc, zOd, zQl, inl_lists]
def rmE (id fl : Int) (q : List QuX) (an ns ar : List RcX) (e p : Int) (f : Nat -> Option Value) : Fs := ⟨slots 7 [(2, pt 0), (3, pt 1)] f, heapO 3 [(0, .cells [.int .i64 id, .int .i64 fl, lsV 2 q, lsV 3 an, lsV 4 ns, lsV 5 ar] 25), (1, .cells [.int .i64 e, .int .i64 p] 48)] [(2, lsO layQ q), (3, lsO layR an), (4, lsO layR ns), (5, lsO layR ar)], 6, [], [.call 60 [pt 1, pt 0] []]⟩
theorem zFs (id fl : Int) (q : List QuX) (an ns ar : List RcX) (R : Res -> Prop) (f : Nat -> Option Value) : fnK tbRm2 Try.f34 R .ret (rmE id fl q an ns ar 0 0 f) = R (.ret (.tuple #[.agg #[.int .i64 id, .int .i64 fl, lsV 2 q, lsV 3 an, lsV 4 ns, lsV 5 ar], .agg #[.int .i64 0, .int .i64 0]]) (resH (endR tbRm2 Try.f34 .ret (rmE id fl q an ns ar 0 0 f))) (resN (endR tbRm2 Try.f34 .ret (rmE id fl q an ns ar 0 0 f))) []) := by kernel_rfl
theorem rm_e1a (n : Nat) (id fl : Int) (q : List QuX) (an ns ar : List RcX) (p : Int) (R : Res -> Prop) (f : Nat -> Option Value) : fnK tbRm2 Try.f34 R .ret (rmE id fl q an ns ar (.ofNat (n + 1)) p f) = R (.ret (.tuple #[.agg #[.int .i64 0, .int .i64 0, .slice none 0 0, .slice none 0 0, .slice none 0 0, .slice none 0 0], .agg #[.int .i64 (.ofNat (n + 1)), .int .i64 p]]) (resH (endR tbRm2 Try.f34 .ret (rmE id fl q an ns ar (.ofNat (n + 1)) p f))) (resN (endR tbRm2 Try.f34 .ret (rmE id fl q an ns ar (.ofNat (n + 1)) p f))) [0]) := by kernel_rfl
theorem rm_e1b (n : Nat) (id fl : Int) (q : List QuX) (an ns ar : List RcX) (p : Int) (R : Res -> Prop) (f : Nat -> Option Value) : fnK tbRm2 Try.f34 R .ret (rmE id fl q an ns ar (.negSucc n) p f) = R (.ret (.tuple #[.agg #[.int .i64 0, .int .i64 0, .slice none 0 0, .slice none 0 0, .slice none 0 0, .slice none 0 0], .agg #[.int .i64 (.negSucc n), .int .i64 p]]) (resH (endR tbRm2 Try.f34 .ret (rmE id fl q an ns ar (.negSucc n) p f))) (resN (endR tbRm2 Try.f34 .ret (rmE id fl q an ns ar (.negSucc n) p f))) [0]) := by kernel_rfl
theorem zBb (e : Int) (he : e ≠ 0) (id fl : Int) (q : List QuX) (an ns ar : List RcX) (p : Int) (R : Res -> Prop) (f : Nat -> Option Value) : fnK tbRm2 Try.f34 R .ret (rmE id fl q an ns ar e p f) = R (.ret (.tuple #[.agg #[.int .i64 0, .int .i64 0, .slice none 0 0, .slice none 0 0, .slice none 0 0, .slice none 0 0], .agg #[.int .i64 e, .int .i64 p]]) (resH (endR tbRm2 Try.f34 .ret (rmE id fl q an ns ar e p f))) (resN (endR tbRm2 Try.f34 .ret (rmE id fl q an ns ar e p f))) [0]) :=
 match e, he with
 | .ofNat 0, h => ab rfl h
 | .ofNat (n + 1), _ => rm_e1a n id fl q an ns ar p R f
 | .negSucc n, _ => rm_e1b n id fl q an ns ar p R f
theorem zFu (id fl : Int) (q : List QuX) (an ns ar : List RcX) (f : Nat -> Option Value) : (resH (endR tbRm2 Try.f34 .ret (rmE id fl q an ns ar 0 0 f))).get 2 = lsO layQ q := by kernel_rfl
theorem zFv (id fl : Int) (q : List QuX) (an ns ar : List RcX) (f : Nat -> Option Value) : (resH (endR tbRm2 Try.f34 .ret (rmE id fl q an ns ar 0 0 f))).get 3 = lsO layR an := by kernel_rfl
theorem zFw (id fl : Int) (q : List QuX) (an ns ar : List RcX) (f : Nat -> Option Value) : (resH (endR tbRm2 Try.f34 .ret (rmE id fl q an ns ar 0 0 f))).get 4 = lsO layR ns := by kernel_rfl
theorem zFx (id fl : Int) (q : List QuX) (an ns ar : List RcX) (f : Nat -> Option Value) : (resH (endR tbRm2 Try.f34 .ret (rmE id fl q an ns ar 0 0 f))).get 5 = lsO layR ar := by kernel_rfl
theorem zFt (id fl : Int) (q : List QuX) (an ns ar : List RcX) (f : Nat -> Option Value) : (resH (endR tbRm2 Try.f34 .ret (rmE id fl q an ns ar 0 0 f))).get 0 ≠ none := by rw [show (resH (endR tbRm2 Try.f34 .ret (rmE id fl q an ns ar 0 0 f))).get 0 = some (.cells [.int .i64 id, .int .i64 fl, lsV 2 q, lsV 3 an, lsV 4 ns, lsV 5 ar] 25) by kernel_rfl]; simp
def rmS1 (B : Bl) (x : Nat × List QuX × Int) (f : Nat -> Option Value) : Fs := ⟨slots 7 [(0, trB B), (2, pt 0), (3, pt 1), (4, pt 2), (5, .int .i64 x.2.2), (50, .int .i64 (numAt B 4 2 : Nat)), (51, .int .i64 (x.1 : Nat))] f, heapO 3 [(0, .cells [.int .i64 (numAt B 0 2 : Nat), .int .i64 (numAt B 2 2 : Nat), lsV 3 x.2.1, lsV 4 ([] : List RcX), lsV 5 ([] : List RcX), lsV 6 ([] : List RcX)] 25), (1, .cells [.int .i64 0, .int .i64 0] 48), (2, .cells [.int .i64 (numAt B 0 2 : Nat), .int .i64 (numAt B 2 2 : Nat), .int .i64 (numAt B 4 2 : Nat), .int .i64 (numAt B 6 2 : Nat), .int .i64 (numAt B 8 2 : Nat), .int .i64 (numAt B 10 2 : Nat)] 85)] [(3, lsO layQ x.2.1), (4, lsO layR ([] : List RcX)), (5, lsO layR ([] : List RcX)), (6, lsO layR ([] : List RcX))], 7, [], [.call 60 [pt 1, pt 0] []]⟩
def rmS2 (B : Bl) (N : Nat) (k : Int) (qp : List QuX) (x1 x2 x3 : List RcX) (at' : Int) (i : Nat) (f : Nat -> Option Value) : Fs := ⟨slots 7 [(0, trB B), (2, pt 0), (3, pt 1), (4, pt 2), (5, .int .i64 at'), (11, .pointer (some ⟨0, (3 + k.toNat), none⟩)), (73, .agg #[.pointer (some ⟨0, 3, none⟩), .pointer (some ⟨0, 4, none⟩), .pointer (some ⟨0, 5, none⟩)]), (74, .int .i64 k), (81, .int .i64 (N : Nat)), (82, .int .i64 (i : Nat))] f, heapO 3 [(0, .cells [.int .i64 (numAt B 0 2 : Nat), .int .i64 (numAt B 2 2 : Nat), lsV 3 qp, lsV 4 x1, lsV 5 x2, lsV 6 x3] 25), (1, .cells [.int .i64 0, .int .i64 0] 48), (2, .cells [.int .i64 (numAt B 0 2 : Nat), .int .i64 (numAt B 2 2 : Nat), .int .i64 (numAt B 4 2 : Nat), .int .i64 (numAt B 6 2 : Nat), .int .i64 (numAt B 8 2 : Nat), .int .i64 (numAt B 10 2 : Nat)] 85)] [(3, lsO layQ qp), (4, lsO layR x1), (5, lsO layR x2), (6, lsO layR x3)], 7, [], [.call 60 [pt 1, pt 0] []]⟩
theorem zDc (B : Bl) (k : Nat) : numAt B k 2 < 65536 := by
 unfold numAt
 have := beN_lt ((B.drop k).take 2)
 have h : ((B.drop k).take 2).length <= 2 := by rw [aU]; omega
 exact bB this (Nat.pow_le_pow_right (by decide) h)
def rmRes (B : Bl) (r : Res) : Prop := ∃ m e p H k wr, msQ B m e p /\ r = .ret (.tuple #[.agg #[.int .i64 m.id, .int .i64 m.fl, lsV 2 m.q, lsV 3 m.an, lsV 4 m.ns, lsV 5 m.ar], .agg #[.int .i64 e, .int .i64 p]]) H k wr /\ (m.q ≠ [] -> H.get 2 = lsO layQ m.q) /\ (m.an ≠ [] -> H.get 3 = lsO layR m.an) /\ (m.ns ≠ [] -> H.get 4 = lsO layR m.ns) /\ (m.ar ≠ [] -> H.get 5 = lsO layR m.ar) /\ (e = 0 -> H.get 0 ≠ none)
theorem zAg {B : Bl} {e p : Int} {H : Tr AObj} {k : Nat} {wr : List Nat} (h : msQ B zM e p) (he : e ≠ 0) : rmRes B (.ret (.tuple #[.agg #[.int .i64 0, .int .i64 0, .slice none 0 0, .slice none 0 0, .slice none 0 0, .slice none 0 0], .agg #[.int .i64 e, .int .i64 p]]) H k wr) :=
 ⟨zM, e, p, H, k, wr, h, rfl, fun h => ab rfl h, fun h => ab rfl h, fun h => ab rfl h, fun h => ab rfl h, fun h => ab h he⟩
theorem zBr {σ : Nat -> Nat -> Prop} {b1 b2 b3 b4 c1 c2 c3 c4 : Nat} (h1 : σ b1 c1) (h2 : σ b2 c2) (h3 : σ b3 c3) (h4 : σ b4 c4) (id fl : Int) (q : List QuX) (an ns ar : List RcX) : RO Try.prog σ (.cells [.int .i64 id, .int .i64 fl, lsV b1 q, lsV b2 an, lsV b3 ns, lsV b4 ar] 25) (.cells [.int .i64 id, .int .i64 fl, lsV c1 q, lsV c2 an, lsV c3 ns, lsV c4 ar] 25) :=
 RO.cells _ [] _ _ (.cons _ _ _ _ (.int _ _) (.cons _ _ _ _ (.int _ _) (.cons _ _ _ _ (zIo h1 q) (.cons _ _ _ _ (zIo h2 an) (.cons _ _ _ _ (zIo h3 ns) (.cons _ _ _ _ (zIo h4 ar) .nil))))))
theorem zBj {α : Type} (y : α) (ys : List α) (x : α) (b : Nat) : sq b (ys.length + 1 + 1) U = lsV b (y :: (ys ++ [x])) := by
 show _ = Value.slice _ ((ys ++ [x]).length + 1) U
 rw [aB]; rfl
theorem zAi {nt : Nat} {s : Fs} {K : Fs -> Prop} {id fl e p : Int} {q : List QuX} {an ns ar : List RcX} (hd : Nat.ble (nt + 1) (2 ^ 7) = true) (hs : Nat.ble 0 s.n = true) (h2 : s.T.get 2 = some (pt 0)) (h3 : s.T.get 3 = some (pt 1)) (k0 : s.H.get 0 = some (.cells [.int .i64 id, .int .i64 fl, lsV 3 q, lsV 4 an, lsV 5 ns, lsV 6 ar] 25)) (k1 : s.H.get 1 = some (.cells [.int .i64 e, .int .i64 p] 48))
  (l1 : s.H.get 3 = lsO layQ q) (l2 : s.H.get 4 = lsO layR an) (l3 : s.H.get 5 = lsO layR ns) (l4 : s.H.get 6 = lsO layR ar) (hD : s.df = [.call 60 [pt 1, pt 0] []]) (k : ∀ f, K (rmE id fl q an ns ar e p f)) : ∃ s2, RcM Try.prog 0 0 nt none s s2 /\ K s2 :=
 zAk (zAe [0, 1, 3, 4, 5, 6] (d := 7) (d2 := 3) (lv := [(2, pt 0), (3, pt 1)]) (bs := [(0, .cells [.int .i64 id, .int .i64 fl, lsV 2 q, lsV 3 an, lsV 4 ns, lsV 5 ar] 25), (1, .cells [.int .i64 e, .int .i64 p] 48)]) (bo := [(2, lsO layQ q), (3, lsO layR an), (4, lsO layR ns), (5, lsO layR ar)]) (W := []) (m := 6) (df := [.call 60 [pt 1, pt 0] []]) hd hs rfl (fun l e => by cases e) (by decide) (by decide) rfl rfl (fun k _ h => ab h (Nat.not_lt_zero _))
  ⟨⟨_, h2, .ptr _ _ _ rfl⟩, ⟨_, h3, .ptr _ _ _ rfl⟩, tv⟩ ⟨⟨by decide, _, k0, by refine zBr ?_ ?_ ?_ ?_ _ _ _ _ _ _ <;> rfl⟩, ⟨by decide, _, k1, .same rfl⟩, tv⟩ ⟨zAa layQ (by decide) l1, zAa layR (by decide) l2, zAa layR (by decide) l3, zAa layR (by decide) l4, tv⟩ (by rw [hD]; exact (.fn _ _ _ _ _ _ _ (.cons _ _ _ _ (.ptr _ _ _ rfl) (.cons _ _ _ _ (.ptr _ _ _ rfl) .nil)) .nil .nil))) k
theorem zAp {nt : Nat} {s : Fs} {K : Fs -> Prop} {id fl e p : Int} {q : List QuX} {an ns ar : List RcX} (hd : Nat.ble (nt + 1) (2 ^ 7) = true) (hs : Nat.ble 0 s.n = true) (h2 : s.T.get 2 = some (pt 0)) (h3 : s.T.get 3 = some (pt 1)) (k0 : s.H.get 0 = some (.cells [.int .i64 id, .int .i64 fl, lsV 2 q, lsV 3 an, lsV 4 ns, lsV 5 ar] 25)) (k1 : s.H.get 1 = some (.cells [.int .i64 e, .int .i64 p] 48))
  (l1 : s.H.get 2 = lsO layQ q) (l2 : s.H.get 3 = lsO layR an) (l3 : s.H.get 4 = lsO layR ns) (l4 : s.H.get 5 = lsO layR ar) (hD : s.df = [.call 60 [pt 1, pt 0] []]) (k : ∀ f, K (rmE id fl q an ns ar e p f)) : ∃ s2, RcM Try.prog 0 0 nt none s s2 /\ K s2 :=
 zAk (zAe [0, 1, 2, 3, 4, 5] (d := 7) (d2 := 3) (lv := [(2, pt 0), (3, pt 1)]) (bs := [(0, .cells [.int .i64 id, .int .i64 fl, lsV 2 q, lsV 3 an, lsV 4 ns, lsV 5 ar] 25), (1, .cells [.int .i64 e, .int .i64 p] 48)]) (bo := [(2, lsO layQ q), (3, lsO layR an), (4, lsO layR ns), (5, lsO layR ar)]) (W := []) (m := 6) (df := [.call 60 [pt 1, pt 0] []]) hd hs rfl (fun l e => by cases e) (by decide) (by decide) rfl rfl (fun k _ h => ab h (Nat.not_lt_zero _))
  ⟨⟨_, h2, .ptr _ _ _ rfl⟩, ⟨_, h3, .ptr _ _ _ rfl⟩, tv⟩ ⟨⟨by decide, _, k0, by refine zBr ?_ ?_ ?_ ?_ _ _ _ _ _ _ <;> rfl⟩, ⟨by decide, _, k1, .same rfl⟩, tv⟩ ⟨zAa layQ (by decide) l1, zAa layR (by decide) l2, zAa layR (by decide) l3, zAa layR (by decide) l4, tv⟩ (by rw [hD]; exact (.fn _ _ _ _ _ _ _ (.cons _ _ _ _ (.ptr _ _ _ rfl) (.cons _ _ _ _ (.ptr _ _ _ rfl) .nil)) .nil .nil))) k
theorem zOt (B : Bl) (hB : B.length <= 1000000) : ∃ r, FnS Try.prog 0 34 [trB B] .e 0 r /\ rmRes B r := by
 have hszQ : (Try.prog.types[57]).size = 3 := by kernel_rfl
 have hbyQ : (Try.prog.types[57]).bytes = 32 := by kernel_rfl
 have hszR : (Try.prog.types[69]).size = 5 := by kernel_rfl
 have hbyR : (Try.prog.types[69]).bytes = 56 := by kernel_rfl
 refine fn_sxR mixed tbRm2 [] Try.func34 (c := bodyOf Try.f34) (by kernel_rfl) ?_
 refine ifK (fun g1 => ?_) (fun g1 => ?_)
 ·have g1 : 65535 < B.length := by have g1 : ((B.length : Nat) : Int) > 65535 := oT g1; omega
  refine aI rfl (zAk (zAe [0, 1, 40, 41, 42, 43] rfl rfl rfl (fun l e => by cases e) (by decide) (by decide) rfl rfl (zAt rfl) (d := 7) (d2 := 3) (lv := [(2, pt 0), (3, pt 1)]) (bs := [(0, .cells [.int .i64 0, .int .i64 0, lsV 2 ([] : List QuX), lsV 3 ([] : List RcX), lsV 4 ([] : List RcX), lsV 5 ([] : List RcX)] 25), (1, .cells [.int .i64 3, .int .i64 0] 48)]) (bo := [(2, lsO layQ ([] : List QuX)), (3, lsO layR ([] : List RcX)), (4, lsO layR ([] : List RcX)), (5, lsO layR ([] : List RcX))]) (W := []) (m := 6) (df := [.call 60 [pt 1, pt 0] []]) ⟨(sP rfl rfl), (sP rfl rfl), tv⟩ ⟨bpo rfl, bpo rfl, tv⟩ ⟨(fun o ho => by cases ho), (fun o ho => by cases ho), (fun o ho => by cases ho), (fun o ho => by cases ho), tv⟩ (.fn _ _ _ _ _ _ _ (.cons _ _ _ _ (.ptr _ _ _ rfl) (.cons _ _ _ _ (.ptr _ _ _ rfl) .nil)) .nil .nil)) (fun f => ?_))
  refine Eq.mpr (zBb 3 (by decide) 0 0 [] [] [] [] 0 _ f) ?_
  exact zAg (.long g1) (by decide)
 have g1 : B.length <= 65535 := by have g1 : ¬ ((B.length : Nat) : Int) > 65535 := oF g1; omega
 refine ifK (fun g2 => ?_) (fun g2 => ?_)
 ·have g2 : B.length < 12 := by have g2 : ((B.length : Nat) : Int) < 12 := oT g2; omega
  refine aI rfl (zAk (zAe [0, 1, 40, 41, 42, 43] rfl rfl rfl (fun l e => by cases e) (by decide) (by decide) rfl rfl (zAt rfl) (d := 7) (d2 := 3) (lv := [(2, pt 0), (3, pt 1)]) (bs := [(0, .cells [.int .i64 0, .int .i64 0, lsV 2 ([] : List QuX), lsV 3 ([] : List RcX), lsV 4 ([] : List RcX), lsV 5 ([] : List RcX)] 25), (1, .cells [.int .i64 4, .int .i64 (B.length : Nat)] 48)]) (bo := [(2, lsO layQ ([] : List QuX)), (3, lsO layR ([] : List RcX)), (4, lsO layR ([] : List RcX)), (5, lsO layR ([] : List RcX))]) (W := []) (m := 6) (df := [.call 60 [pt 1, pt 0] []]) ⟨(sP rfl rfl), (sP rfl rfl), tv⟩ ⟨bpo rfl, bpo rfl, tv⟩ ⟨(fun o ho => by cases ho), (fun o ho => by cases ho), (fun o ho => by cases ho), (fun o ho => by cases ho), tv⟩ (.fn _ _ _ _ _ _ _ (.cons _ _ _ _ (.ptr _ _ _ rfl) (.cons _ _ _ _ (.ptr _ _ _ rfl) .nil)) .nil .nil)) (fun f => ?_))
  refine Eq.mpr (zBb 4 (by decide) 0 0 [] [] [] [] _ _ f) ?_
  exact zAg (.short g2) (by decide)
 have g2 : 12 <= B.length := by have g2 : ¬ ((B.length : Nat) : Int) < 12 := oF g2; omega
 have hne : B ≠ [] := fun h => by rw [h] at g2; exact ab g2 (by decide)
 refine LW.round ?_
 refine zAs tbRm2 [] 0 _ none mixed _ _ _ ?_
 refine eI (B, (0 : Int)) (aI ⟨rfl, hne, by show B.length <= _; omega, (show (0 : Int) <= 0 by decide), by show 0 + 2 <= B.length; omega⟩ ?_)
 refine LW.round ?_
 refine zAs tbRm2 [] 0 _ none mixed _ _ _ ?_
 refine eI (B, (2 : Int)) (aI ⟨rfl, hne, by show B.length <= _; omega, (show (0 : Int) <= 2 by decide), by show 2 + 2 <= B.length; omega⟩ ?_)
 refine LW.round ?_
 refine zAs tbRm2 [] 0 _ none mixed _ _ _ ?_
 refine eI (B, (4 : Int)) (aI ⟨rfl, hne, by show B.length <= _; omega, (show (0 : Int) <= 4 by decide), by show 4 + 2 <= B.length; omega⟩ ?_)
 refine LW.round ?_
 refine zAs tbRm2 [] 0 _ none mixed _ _ _ ?_
 refine eI (B, (6 : Int)) (aI ⟨rfl, hne, by show B.length <= _; omega, (show (0 : Int) <= 6 by decide), by show 6 + 2 <= B.length; omega⟩ ?_)
 refine LW.round ?_
 refine zAs tbRm2 [] 0 _ none mixed _ _ _ ?_
 refine eI (B, (8 : Int)) (aI ⟨rfl, hne, by show B.length <= _; omega, (show (0 : Int) <= 8 by decide), by show 8 + 2 <= B.length; omega⟩ ?_)
 refine LW.round ?_
 refine zAs tbRm2 [] 0 _ none mixed _ _ _ ?_
 refine eI (B, (10 : Int)) (aI ⟨rfl, hne, by show B.length <= _; omega, (show (0 : Int) <= 10 by decide), by show 10 + 2 <= B.length; omega⟩ ?_)
 refine LW.round ?_
 refine zAs tbRm2 [] 0 _ none mixed _ _ _ ?_
 refine aI (by kernel_rfl) ?_
 refine zAv (rmS1 B) (fun x => numAt B 4 2 - x.1) (fun x => x.1 <= numAt B 4 2 /\ x.2.1.length = x.1 /\ mrQ B (numAt B 4 2) (x.2.1.map .inl) x.2.2) (0, [], 12) ⟨aH _, rfl, .nil⟩ ?_ ?_
 ·exact zAe [0, 1, 2, 40, 41, 42, 43] rfl rfl rfl (fun l e => by cases e) (by decide) (by decide) rfl rfl (zAt rfl) ⟨⟨_, rfl, zAh 8 rfl⟩, (sP rfl rfl), (sP rfl rfl), (sP rfl rfl), (sI rfl), (sI rfl), (sI rfl), tv⟩ ⟨bpo rfl, bpo rfl, bpo rfl, tv⟩ ⟨(fun o ho => by cases ho), (fun o ho => by cases ho), (fun o ho => by cases ho), (fun o ho => by cases ho), tv⟩ (.fn _ _ _ _ _ _ _ (.cons _ _ _ _ (.ptr _ _ _ rfl) (.cons _ _ _ _ (.ptr _ _ _ rfl) .nil)) .nil .nil)
 rintro ⟨i, q, at'⟩ f ⟨hi, hql, hm⟩
 have hi : i <= numAt B 4 2 := hi
 have hql : q.length = i := hql
 have hm : mrQ B (numAt B 4 2) (q.map .inl) at' := hm
 have hn2 : numAt B 4 2 < 65536 := zDc B 4
 refine zAs tbRm2 [] 0 _ none mixed _ _ _ ?_
 refine ifK (fun h1 => ?_) (fun h1 => ?_)
 ·have hlt : i < numAt B 4 2 := by have h1 : ((i : Nat) : Int) < ((numAt B 4 2 : Nat) : Int) := oT h1; omega
  refine eI (B, at') (aI ⟨rfl, hne, by show B.length <= _; omega⟩ ?_)
  rintro ⟨x, nx, e, p⟩ hQ
  have hQ : queQ B at' (quT (x, nx, e, p)) := hQ
  refine ifK (fun h2 => ?_) (fun h2 => ?_)
  ·have he : e ≠ 0 := by have h2 : (e != 0) = true := h2; simpa using h2
   have hb : mrBad B (numAt B 4 2) (q.map .inl) at' e p := .inl ⟨by rw [aT]; omega, x, nx, hQ⟩
   have ht : (q.map (Sum.inl (β := RcX))).length < totB B := by rw [aT]; unfold totB; omega
   cases q with
   | nil =>
    refine aI (by kernel_rfl) ?_
    refine aI rfl (zAi (q := ([] : List QuX)) (an := ([] : List RcX)) (ns := ([] : List RcX)) (ar := ([] : List RcX)) rfl rfl rfl rfl rfl rfl rfl rfl rfl rfl rfl (fun f => ?_))
    refine aI rfl (zAp (q := ([] : List QuX)) (an := ([] : List RcX)) (ns := ([] : List RcX)) (ar := ([] : List RcX)) rfl rfl rfl rfl rfl rfl rfl rfl rfl rfl rfl (fun f => ?_))
    refine Eq.mpr (zBb e he _ _ _ _ _ _ p _ f) ?_
    exact zAg (.fault ⟨g2, g1⟩ hm ht hb he) he
   | cons q0 qs =>
    refine aI (by kernel_rfl) ?_
    refine aI rfl (zAi (q := (q0 :: qs)) (an := ([] : List RcX)) (ns := ([] : List RcX)) (ar := ([] : List RcX)) rfl rfl rfl rfl rfl rfl rfl rfl rfl rfl rfl (fun f => ?_))
    refine aI rfl (zAp (q := (q0 :: qs)) (an := ([] : List RcX)) (ns := ([] : List RcX)) (ar := ([] : List RcX)) rfl rfl rfl rfl rfl rfl rfl rfl rfl rfl rfl (fun f => ?_))
    refine Eq.mpr (zBb e he _ _ _ _ _ _ p _ f) ?_
    exact zAg (.fault ⟨g2, g1⟩ hm ht hb he) he
  have he : e = 0 := by have h2 : (e != 0) = false := h2; simpa using h2
  subst he
  have hm2 : mrQ B (numAt B 4 2) ((q ++ [x]).map .inl) nx := by
   rw [List.map_append]
   exact .q hm (by rw [aT]; omega) hQ
  cases q with
  | nil =>
   refine ⟨(i + 1, [x], nx), ⟨hlt, by rw [<- hql]; rfl, hm2⟩, by show numAt B 4 2 - (i + 1) < numAt B 4 2 - i; omega, ?_⟩
   exact zAe [0, 1, 2, 10, 4, 5, 6] rfl rfl rfl (fun l e => by cases e) (by decide) (by decide) rfl rfl (zAt rfl) ⟨⟨_, rfl, zAh 8 rfl⟩, (sP rfl rfl), (sP rfl rfl), (sP rfl rfl), (sI rfl), (sI rfl), zAd rfl (by rw [wrapN (by omega) (by omega)]; omega), tv⟩ ⟨⟨by decide, _, rfl, by show RO _ _ (.cells [.int .i64 _, .int .i64 _, lsV 10 [x], lsV 4 ([] : List RcX), lsV 5 ([] : List RcX), lsV 6 ([] : List RcX)] _) _; refine zBr (b1 := 10) (b2 := 4) (b3 := 5) (b4 := 6) (c1 := 3) (c2 := 4) (c3 := 5) (c4 := 6) ?_ ?_ ?_ ?_ _ _ [x] ([] : List RcX) ([] : List RcX) ([] : List RcX) <;> rfl⟩, bpo rfl, bpo rfl, tv⟩ ⟨(fun o ho => ⟨by decide, _, rfl, by cases ho; exact zBm rfl rfl⟩), (zAa layR (by decide) rfl), (zAa layR (by decide) rfl), (zAa layR (by decide) rfl), tv⟩ (.fn _ _ _ _ _ _ _ (.cons _ _ _ _ (.ptr _ _ _ rfl) (.cons _ _ _ _ (.ptr _ _ _ rfl) .nil)) .nil .nil)
  | cons y ys =>
   have hfl : (List.flatMap layQ.g (y :: ys)).length = (ys.length + 1) * 3 := zAc layQ.g 3 layQ.len (y :: ys)
   have hyl : ys.length + 1 = i := hql
   refine aI (by rw [hszQ, hbyQ]; simp only [bA, dT]; exact ⟨⟨⟨⟨⟨⟨rfl, rfl⟩, bL (by rw [hfl]; omega)⟩, rfl⟩, by omega⟩, by omega⟩, bL (by rw [hfl]; show (ys.length + 1) * 3 + 1 <= 0 + (ys.length + 1) * 3 + 3; omega)⟩) ?_
   have ec : List.take ((ys.length + 1) * 3) (List.flatMap layQ.g (y :: ys)) ++ layQ.g x = (y :: (ys ++ [x])).flatMap layQ.g := by rw [aD (by rw [hfl]; omega), <- bC, List.flatMap_append]; simp
   refine ⟨(i + 1, y :: (ys ++ [x]), nx), ⟨hlt, by show (y :: (ys ++ [x])).length = _; simp; omega, hm2⟩, by show numAt B 4 2 - (i + 1) < numAt B 4 2 - i; omega, ?_⟩
   exact zAe [0, 1, 2, 10, 4, 5, 6] rfl rfl rfl (fun l e => by cases e) (by decide) (by decide) rfl rfl (zAt rfl) ⟨⟨_, rfl, zAh 8 rfl⟩, (sP rfl rfl), (sP rfl rfl), (sP rfl rfl), (sI rfl), (sI rfl), zAd rfl (by rw [wrapN (by omega) (by omega)]; omega), tv⟩ ⟨⟨by decide, _, rfl, by show RO _ _ (.cells [.int .i64 _, .int .i64 _, sq 10 (ys.length + 1 + 1) U, lsV 4 ([] : List RcX), lsV 5 ([] : List RcX), lsV 6 ([] : List RcX)] _) _; rw [zBj y ys x 10]; refine zBr (b1 := 10) (b2 := 4) (b3 := 5) (b4 := 6) (c1 := 3) (c2 := 4) (c3 := 5) (c4 := 6) ?_ ?_ ?_ ?_ _ _ (y :: (ys ++ [x])) ([] : List RcX) ([] : List RcX) ([] : List RcX) <;> rfl⟩, bpo rfl, bpo rfl, tv⟩ ⟨(fun o ho => ⟨by decide, _, rfl, by cases ho; exact zBm (by rw [<- ec]; rfl) (zAf layQ.g layQ.plain _)⟩), (zAa layR (by decide) rfl), (zAa layR (by decide) rfl), (zAa layR (by decide) rfl), tv⟩ (.fn _ _ _ _ _ _ _ (.cons _ _ _ _ (.ptr _ _ _ rfl) (.cons _ _ _ _ (.ptr _ _ _ rfl) .nil)) .nil .nil)
 have hiq : i = numAt B 4 2 := by have h1 : ¬ ((i : Nat) : Int) < ((numAt B 4 2 : Nat) : Int) := oF h1; omega
 subst hiq
 have hm : mrQ B (numAt B 4 2) (q.map (Sum.inl (β := RcX))) at' := hm
 refine aI rfl (zAk (zAe [0, 1, 2, 3, 4, 5, 6] rfl rfl rfl (fun l e => by cases e) (by decide) (by decide) rfl rfl (zAt rfl) (d := 7) (d2 := 3) (lv := [(0, trB B), (2, pt 0), (3, pt 1), (4, pt 2), (5, .int .i64 at')]) (bs := [(0, .cells [.int .i64 (numAt B 0 2 : Nat), .int .i64 (numAt B 2 2 : Nat), lsV 3 q, lsV 4 ([] : List RcX), lsV 5 ([] : List RcX), lsV 6 ([] : List RcX)] 25), (1, .cells [.int .i64 0, .int .i64 0] 48), (2, .cells [.int .i64 (numAt B 0 2 : Nat), .int .i64 (numAt B 2 2 : Nat), .int .i64 (numAt B 4 2 : Nat), .int .i64 (numAt B 6 2 : Nat), .int .i64 (numAt B 8 2 : Nat), .int .i64 (numAt B 10 2 : Nat)] 85)]) (bo := [(3, lsO layQ q), (4, lsO layR ([] : List RcX)), (5, lsO layR ([] : List RcX)), (6, lsO layR ([] : List RcX))]) (W := []) (m := 7) (df := [.call 60 [pt 1, pt 0] []]) ⟨⟨_, rfl, zAh 8 rfl⟩, (sP rfl rfl), (sP rfl rfl), (sP rfl rfl), (sI rfl), tv⟩ ⟨⟨by decide, _, rfl, by refine zBr (b1 := 3) (b2 := 4) (b3 := 5) (b4 := 6) (c1 := 3) (c2 := 4) (c3 := 5) (c4 := 6) ?_ ?_ ?_ ?_ _ _ q ([] : List RcX) ([] : List RcX) ([] : List RcX) <;> rfl⟩, bpo rfl, bpo rfl, tv⟩ ⟨(zAa layQ (by decide) rfl), (zAa layR (by decide) rfl), (zAa layR (by decide) rfl), (zAa layR (by decide) rfl), tv⟩ (.fn _ _ _ _ _ _ _ (.cons _ _ _ _ (.ptr _ _ _ rfl) (.cons _ _ _ _ (.ptr _ _ _ rfl) .nil)) .nil .nil)) (fun f => ?_))
 refine aI (by kernel_rfl) ?_
 have hlq : q.length = numAt B 4 2 := hql
 refine LW.round ?_
 refine zAs tbRm2 [] 0 _ none mixed _ _ _ ?_
 refine zAv (fun (x : Nat × List RcX × Int) => rmS2 B (numAt B 6 2) 0 q x.2.1 ([] : List RcX) ([] : List RcX) x.2.2 x.1) (fun x => numAt B 6 2 - x.1) (fun x => x.1 <= numAt B 6 2 /\ x.2.1.length = x.1 /\ mrQ B (numAt B 4 2) (q.map (Sum.inl (β := RcX)) ++ x.2.1.map .inr) x.2.2) (0, [], at') ⟨aH _, rfl, by rw [List.map_nil, aF]; exact hm⟩ ?_ ?_
 ·exact zAe [0, 1, 2, 3, 4, 5, 6] rfl rfl rfl (fun l e => by cases e) (by decide) (by decide) rfl rfl (zAt rfl) ⟨⟨_, rfl, zAh 8 rfl⟩, (sP rfl rfl), (sP rfl rfl), (sP rfl rfl), (sI rfl), (sP rfl rfl), ⟨_, rfl, .agg _ _ (.cons _ _ _ _ (.ptr _ _ _ rfl) (.cons _ _ _ _ (.ptr _ _ _ rfl) (.cons _ _ _ _ (.ptr _ _ _ rfl) .nil)))⟩, (sI rfl), (sI rfl), (sI rfl), tv⟩ ⟨⟨by decide, _, rfl, by refine zBr (b1 := 3) (b2 := 4) (b3 := 5) (b4 := 6) (c1 := 3) (c2 := 4) (c3 := 5) (c4 := 6) ?_ ?_ ?_ ?_ _ _ q ([] : List RcX) ([] : List RcX) ([] : List RcX) <;> rfl⟩, bpo rfl, bpo rfl, tv⟩ ⟨(zAa layQ (by decide) rfl), (zAa layR (by decide) rfl), (zAa layR (by decide) rfl), (zAa layR (by decide) rfl), tv⟩ (.fn _ _ _ _ _ _ _ (.cons _ _ _ _ (.ptr _ _ _ rfl) (.cons _ _ _ _ (.ptr _ _ _ rfl) .nil)) .nil .nil)
 rintro ⟨i, an, at'⟩ f ⟨hi, hql, hm⟩
 have hi : i <= numAt B 6 2 := hi
 have hql : an.length = i := hql
 have hm : mrQ B (numAt B 4 2) (q.map (Sum.inl (β := RcX)) ++ an.map .inr) at' := hm
 have hnn : numAt B 6 2 < 65536 := zDc B 6
 have hpl : (q.map (Sum.inl (β := RcX))).length = numAt B 4 2 := by simp only [aT]; omega
 refine zAs tbRm2 [] 0 _ none mixed _ _ _ ?_
 refine ifK (fun h1 => ?_) (fun h1 => ?_)
 ·have hlt : i < numAt B 6 2 := by have h1 : ((i : Nat) : Int) < ((numAt B 6 2 : Nat) : Int) := oT h1; omega
  refine eI (B, at') (aI ⟨rfl, hne, by show B.length <= _; omega⟩ ?_)
  rintro ⟨x, nx, e, p⟩ hQ
  have hQ : recQ B at' (rcT (x, nx, e, p)) := hQ
  have hpl2 : (q.map (Sum.inl (β := RcX)) ++ an.map (Sum.inr (α := QuX))).length = numAt B 4 2 + i := by rw [aB, hpl, aT, hql]
  refine ifK (fun h2 => ?_) (fun h2 => ?_)
  ·have he : e ≠ 0 := by have h2 : (e != 0) = true := h2; simpa using h2
   have hb : mrBad B (numAt B 4 2) (q.map (Sum.inl (β := RcX)) ++ an.map .inr) at' e p := .inr ⟨by rw [hpl2]; omega, x, nx, hQ⟩
   have ht : (q.map (Sum.inl (β := RcX)) ++ an.map (Sum.inr (α := QuX))).length < totB B := by rw [hpl2]; unfold totB; omega
   cases q with
   | nil =>
    cases an with
    | nil =>
     refine aI (by kernel_rfl) ?_
     refine aI rfl (zAi (q := ([] : List QuX)) (an := ([] : List RcX)) (ns := ([] : List RcX)) (ar := ([] : List RcX)) rfl rfl rfl rfl rfl rfl rfl rfl rfl rfl rfl (fun f => ?_))
     refine aI rfl (zAp (q := ([] : List QuX)) (an := ([] : List RcX)) (ns := ([] : List RcX)) (ar := ([] : List RcX)) rfl rfl rfl rfl rfl rfl rfl rfl rfl rfl rfl (fun f => ?_))
     refine Eq.mpr (zBb e he _ _ _ _ _ _ p _ f) ?_
     exact zAg (.fault ⟨g2, g1⟩ hm ht hb he) he
    | cons an0 ans =>
     refine aI (by kernel_rfl) ?_
     refine aI rfl (zAi (q := ([] : List QuX)) (an := (an0 :: ans)) (ns := ([] : List RcX)) (ar := ([] : List RcX)) rfl rfl rfl rfl rfl rfl rfl rfl rfl rfl rfl (fun f => ?_))
     refine aI rfl (zAp (q := ([] : List QuX)) (an := (an0 :: ans)) (ns := ([] : List RcX)) (ar := ([] : List RcX)) rfl rfl rfl rfl rfl rfl rfl rfl rfl rfl rfl (fun f => ?_))
     refine Eq.mpr (zBb e he _ _ _ _ _ _ p _ f) ?_
     exact zAg (.fault ⟨g2, g1⟩ hm ht hb he) he
   | cons q0 qs =>
    cases an with
    | nil =>
     refine aI (by kernel_rfl) ?_
     refine aI rfl (zAi (q := (q0 :: qs)) (an := ([] : List RcX)) (ns := ([] : List RcX)) (ar := ([] : List RcX)) rfl rfl rfl rfl rfl rfl rfl rfl rfl rfl rfl (fun f => ?_))
     refine aI rfl (zAp (q := (q0 :: qs)) (an := ([] : List RcX)) (ns := ([] : List RcX)) (ar := ([] : List RcX)) rfl rfl rfl rfl rfl rfl rfl rfl rfl rfl rfl (fun f => ?_))
     refine Eq.mpr (zBb e he _ _ _ _ _ _ p _ f) ?_
     exact zAg (.fault ⟨g2, g1⟩ hm ht hb he) he
    | cons an0 ans =>
     refine aI (by kernel_rfl) ?_
     refine aI rfl (zAi (q := (q0 :: qs)) (an := (an0 :: ans)) (ns := ([] : List RcX)) (ar := ([] : List RcX)) rfl rfl rfl rfl rfl rfl rfl rfl rfl rfl rfl (fun f => ?_))
     refine aI rfl (zAp (q := (q0 :: qs)) (an := (an0 :: ans)) (ns := ([] : List RcX)) (ar := ([] : List RcX)) rfl rfl rfl rfl rfl rfl rfl rfl rfl rfl rfl (fun f => ?_))
     refine Eq.mpr (zBb e he _ _ _ _ _ _ p _ f) ?_
     exact zAg (.fault ⟨g2, g1⟩ hm ht hb he) he
  have he : e = 0 := by have h2 : (e != 0) = false := h2; simpa using h2
  subst he
  have hm2 : mrQ B (numAt B 4 2) (q.map (Sum.inl (β := RcX)) ++ (an ++ [x]).map .inr) nx := by
   rw [List.map_append, <- aN]
   exact .r hm (by rw [hpl2]; omega) hQ
  cases q with
  | nil =>
   cases an with
   | nil =>
    refine aI (by kernel_rfl) ?_
    refine ⟨(i + 1, [x], nx), ⟨hlt, by rw [<- hql]; rfl, hm2⟩, by show numAt B 6 2 - (i + 1) < numAt B 6 2 - i; omega, ?_⟩
    exact zAe [0, 1, 2, 3, 10, 5, 6] rfl rfl rfl (fun l e => by cases e) (by decide) (by decide) rfl rfl (zAt rfl) ⟨⟨_, rfl, zAh 8 rfl⟩, (sP rfl rfl), (sP rfl rfl), (sP rfl rfl), (sI rfl), (sP rfl rfl), ⟨_, rfl, .agg _ _ (.cons _ _ _ _ (.ptr _ _ _ rfl) (.cons _ _ _ _ (.ptr _ _ _ rfl) (.cons _ _ _ _ (.ptr _ _ _ rfl) .nil)))⟩, (sI rfl), (sI rfl), zAd rfl (by rw [wrapN (by omega) (by omega)]; omega), tv⟩ ⟨⟨by decide, _, rfl, by show RO _ _ (.cells [.int .i64 _, .int .i64 _, lsV 3 ([] : List QuX), lsV 10 [x], lsV 5 ([] : List RcX), lsV 6 ([] : List RcX)] _) _; refine zBr (b1 := 3) (b2 := 10) (b3 := 5) (b4 := 6) (c1 := 3) (c2 := 4) (c3 := 5) (c4 := 6) ?_ ?_ ?_ ?_ _ _ ([] : List QuX) [x] ([] : List RcX) ([] : List RcX) <;> rfl⟩, bpo rfl, bpo rfl, tv⟩ ⟨(zAa layQ (by decide) rfl), (fun o ho => ⟨by decide, _, rfl, by cases ho; exact zBm rfl rfl⟩), (zAa layR (by decide) rfl), (zAa layR (by decide) rfl), tv⟩ (.fn _ _ _ _ _ _ _ (.cons _ _ _ _ (.ptr _ _ _ rfl) (.cons _ _ _ _ (.ptr _ _ _ rfl) .nil)) .nil .nil)
   | cons y ys =>
    have hfl : (List.flatMap layR.g (y :: ys)).length = (ys.length + 1) * 5 := zAc layR.g 5 layR.len (y :: ys)
    have hyl : ys.length + 1 = i := hql
    refine aI (by kernel_rfl) ?_
    refine aI (by rw [hszR, hbyR]; simp only [bA, dT]; exact ⟨⟨⟨⟨⟨⟨rfl, rfl⟩, bL (by rw [hfl]; omega)⟩, rfl⟩, by omega⟩, by omega⟩, bL (by rw [hfl]; show (ys.length + 1) * 5 + 1 <= 0 + (ys.length + 1) * 5 + 5; omega)⟩) ?_
    have ec : List.take ((ys.length + 1) * 5) (List.flatMap layR.g (y :: ys)) ++ layR.g x = (y :: (ys ++ [x])).flatMap layR.g := by rw [aD (by rw [hfl]; omega), <- bC, List.flatMap_append]; simp
    refine ⟨(i + 1, y :: (ys ++ [x]), nx), ⟨hlt, by show (y :: (ys ++ [x])).length = _; simp; omega, hm2⟩, by show numAt B 6 2 - (i + 1) < numAt B 6 2 - i; omega, ?_⟩
    exact zAe [0, 1, 2, 3, 10, 5, 6] rfl rfl rfl (fun l e => by cases e) (by decide) (by decide) rfl rfl (zAt rfl) ⟨⟨_, rfl, zAh 8 rfl⟩, (sP rfl rfl), (sP rfl rfl), (sP rfl rfl), (sI rfl), (sP rfl rfl), ⟨_, rfl, .agg _ _ (.cons _ _ _ _ (.ptr _ _ _ rfl) (.cons _ _ _ _ (.ptr _ _ _ rfl) (.cons _ _ _ _ (.ptr _ _ _ rfl) .nil)))⟩, (sI rfl), (sI rfl), zAd rfl (by rw [wrapN (by omega) (by omega)]; omega), tv⟩ ⟨⟨by decide, _, rfl, by show RO _ _ (.cells [.int .i64 _, .int .i64 _, lsV 3 ([] : List QuX), sq 10 (ys.length + 1 + 1) U, lsV 5 ([] : List RcX), lsV 6 ([] : List RcX)] _) _; rw [zBj y ys x 10]; refine zBr (b1 := 3) (b2 := 10) (b3 := 5) (b4 := 6) (c1 := 3) (c2 := 4) (c3 := 5) (c4 := 6) ?_ ?_ ?_ ?_ _ _ ([] : List QuX) (y :: (ys ++ [x])) ([] : List RcX) ([] : List RcX) <;> rfl⟩, bpo rfl, bpo rfl, tv⟩ ⟨(zAa layQ (by decide) rfl), (fun o ho => ⟨by decide, _, rfl, by cases ho; exact zBm (by rw [<- ec]; rfl) (zAf layR.g layR.plain _)⟩), (zAa layR (by decide) rfl), (zAa layR (by decide) rfl), tv⟩ (.fn _ _ _ _ _ _ _ (.cons _ _ _ _ (.ptr _ _ _ rfl) (.cons _ _ _ _ (.ptr _ _ _ rfl) .nil)) .nil .nil)
  | cons q0 qs =>
   cases an with
   | nil =>
    refine aI (by kernel_rfl) ?_
    refine ⟨(i + 1, [x], nx), ⟨hlt, by rw [<- hql]; rfl, hm2⟩, by show numAt B 6 2 - (i + 1) < numAt B 6 2 - i; omega, ?_⟩
    exact zAe [0, 1, 2, 3, 10, 5, 6] rfl rfl rfl (fun l e => by cases e) (by decide) (by decide) rfl rfl (zAt rfl) ⟨⟨_, rfl, zAh 8 rfl⟩, (sP rfl rfl), (sP rfl rfl), (sP rfl rfl), (sI rfl), (sP rfl rfl), ⟨_, rfl, .agg _ _ (.cons _ _ _ _ (.ptr _ _ _ rfl) (.cons _ _ _ _ (.ptr _ _ _ rfl) (.cons _ _ _ _ (.ptr _ _ _ rfl) .nil)))⟩, (sI rfl), (sI rfl), zAd rfl (by rw [wrapN (by omega) (by omega)]; omega), tv⟩ ⟨⟨by decide, _, rfl, by show RO _ _ (.cells [.int .i64 _, .int .i64 _, lsV 3 (q0 :: qs), lsV 10 [x], lsV 5 ([] : List RcX), lsV 6 ([] : List RcX)] _) _; refine zBr (b1 := 3) (b2 := 10) (b3 := 5) (b4 := 6) (c1 := 3) (c2 := 4) (c3 := 5) (c4 := 6) ?_ ?_ ?_ ?_ _ _ (q0 :: qs) [x] ([] : List RcX) ([] : List RcX) <;> rfl⟩, bpo rfl, bpo rfl, tv⟩ ⟨(zAa layQ (by decide) rfl), (fun o ho => ⟨by decide, _, rfl, by cases ho; exact zBm rfl rfl⟩), (zAa layR (by decide) rfl), (zAa layR (by decide) rfl), tv⟩ (.fn _ _ _ _ _ _ _ (.cons _ _ _ _ (.ptr _ _ _ rfl) (.cons _ _ _ _ (.ptr _ _ _ rfl) .nil)) .nil .nil)
   | cons y ys =>
    have hfl : (List.flatMap layR.g (y :: ys)).length = (ys.length + 1) * 5 := zAc layR.g 5 layR.len (y :: ys)
    have hyl : ys.length + 1 = i := hql
    refine aI (by kernel_rfl) ?_
    refine aI (by rw [hszR, hbyR]; simp only [bA, dT]; exact ⟨⟨⟨⟨⟨⟨rfl, rfl⟩, bL (by rw [hfl]; omega)⟩, rfl⟩, by omega⟩, by omega⟩, bL (by rw [hfl]; show (ys.length + 1) * 5 + 1 <= 0 + (ys.length + 1) * 5 + 5; omega)⟩) ?_
    have ec : List.take ((ys.length + 1) * 5) (List.flatMap layR.g (y :: ys)) ++ layR.g x = (y :: (ys ++ [x])).flatMap layR.g := by rw [aD (by rw [hfl]; omega), <- bC, List.flatMap_append]; simp
    refine ⟨(i + 1, y :: (ys ++ [x]), nx), ⟨hlt, by show (y :: (ys ++ [x])).length = _; simp; omega, hm2⟩, by show numAt B 6 2 - (i + 1) < numAt B 6 2 - i; omega, ?_⟩
    exact zAe [0, 1, 2, 3, 10, 5, 6] rfl rfl rfl (fun l e => by cases e) (by decide) (by decide) rfl rfl (zAt rfl) ⟨⟨_, rfl, zAh 8 rfl⟩, (sP rfl rfl), (sP rfl rfl), (sP rfl rfl), (sI rfl), (sP rfl rfl), ⟨_, rfl, .agg _ _ (.cons _ _ _ _ (.ptr _ _ _ rfl) (.cons _ _ _ _ (.ptr _ _ _ rfl) (.cons _ _ _ _ (.ptr _ _ _ rfl) .nil)))⟩, (sI rfl), (sI rfl), zAd rfl (by rw [wrapN (by omega) (by omega)]; omega), tv⟩ ⟨⟨by decide, _, rfl, by show RO _ _ (.cells [.int .i64 _, .int .i64 _, lsV 3 (q0 :: qs), sq 10 (ys.length + 1 + 1) U, lsV 5 ([] : List RcX), lsV 6 ([] : List RcX)] _) _; rw [zBj y ys x 10]; refine zBr (b1 := 3) (b2 := 10) (b3 := 5) (b4 := 6) (c1 := 3) (c2 := 4) (c3 := 5) (c4 := 6) ?_ ?_ ?_ ?_ _ _ (q0 :: qs) (y :: (ys ++ [x])) ([] : List RcX) ([] : List RcX) <;> rfl⟩, bpo rfl, bpo rfl, tv⟩ ⟨(zAa layQ (by decide) rfl), (fun o ho => ⟨by decide, _, rfl, by cases ho; exact zBm (by rw [<- ec]; rfl) (zAf layR.g layR.plain _)⟩), (zAa layR (by decide) rfl), (zAa layR (by decide) rfl), tv⟩ (.fn _ _ _ _ _ _ _ (.cons _ _ _ _ (.ptr _ _ _ rfl) (.cons _ _ _ _ (.ptr _ _ _ rfl) .nil)) .nil .nil)
 have hiq : i = numAt B 6 2 := by have h1 : ¬ ((i : Nat) : Int) < ((numAt B 6 2 : Nat) : Int) := oF h1; omega
 subst hiq
 have hlan : an.length = numAt B 6 2 := hql
 refine aI rfl (zAk (zAe [0, 1, 2, 3, 4, 5, 6] rfl rfl rfl (fun l e => by cases e) (by decide) (by decide) rfl rfl (zAt rfl) (d := 7) (d2 := 3) (lv := [(0, trB B), (2, pt 0), (3, pt 1), (4, pt 2), (5, .int .i64 at'), (73, .agg #[.pointer (some ⟨0, 3, none⟩), .pointer (some ⟨0, 4, none⟩), .pointer (some ⟨0, 5, none⟩)]), (74, .int .i64 0)]) (bs := [(0, .cells [.int .i64 (numAt B 0 2 : Nat), .int .i64 (numAt B 2 2 : Nat), lsV 3 q, lsV 4 an, lsV 5 ([] : List RcX), lsV 6 ([] : List RcX)] 25), (1, .cells [.int .i64 0, .int .i64 0] 48), (2, .cells [.int .i64 (numAt B 0 2 : Nat), .int .i64 (numAt B 2 2 : Nat), .int .i64 (numAt B 4 2 : Nat), .int .i64 (numAt B 6 2 : Nat), .int .i64 (numAt B 8 2 : Nat), .int .i64 (numAt B 10 2 : Nat)] 85)]) (bo := [(3, lsO layQ q), (4, lsO layR an), (5, lsO layR ([] : List RcX)), (6, lsO layR ([] : List RcX))]) (W := []) (m := 7) (df := [.call 60 [pt 1, pt 0] []]) ⟨⟨_, rfl, zAh 8 rfl⟩, (sP rfl rfl), (sP rfl rfl), (sP rfl rfl), (sI rfl), ⟨_, rfl, .agg _ _ (.cons _ _ _ _ (.ptr _ _ _ rfl) (.cons _ _ _ _ (.ptr _ _ _ rfl) (.cons _ _ _ _ (.ptr _ _ _ rfl) .nil)))⟩, (sI rfl), tv⟩ ⟨⟨by decide, _, rfl, by refine zBr (b1 := 3) (b2 := 4) (b3 := 5) (b4 := 6) (c1 := 3) (c2 := 4) (c3 := 5) (c4 := 6) ?_ ?_ ?_ ?_ _ _ q an ([] : List RcX) ([] : List RcX) <;> rfl⟩, bpo rfl, bpo rfl, tv⟩ ⟨(zAa layQ (by decide) rfl), (zAa layR (by decide) rfl), (zAa layR (by decide) rfl), (zAa layR (by decide) rfl), tv⟩ (.fn _ _ _ _ _ _ _ (.cons _ _ _ _ (.ptr _ _ _ rfl) (.cons _ _ _ _ (.ptr _ _ _ rfl) .nil)) .nil .nil)) (fun f => ?_))
 refine LW.round ?_
 refine zAs tbRm2 [] 0 _ none mixed _ _ _ ?_
 refine zAv (fun (x : Nat × List RcX × Int) => rmS2 B (numAt B 8 2) 1 q an x.2.1 ([] : List RcX) x.2.2 x.1) (fun x => numAt B 8 2 - x.1) (fun x => x.1 <= numAt B 8 2 /\ x.2.1.length = x.1 /\ mrQ B (numAt B 4 2) ((q.map (Sum.inl (β := RcX)) ++ an.map (Sum.inr (α := QuX))) ++ x.2.1.map .inr) x.2.2) (0, [], at') ⟨aH _, rfl, by rw [List.map_nil, aF]; exact hm⟩ ?_ ?_
 ·exact zAe [0, 1, 2, 3, 4, 5, 6] rfl rfl rfl (fun l e => by cases e) (by decide) (by decide) rfl rfl (zAt rfl) ⟨⟨_, rfl, zAh 8 rfl⟩, (sP rfl rfl), (sP rfl rfl), (sP rfl rfl), (sI rfl), (sP rfl rfl), ⟨_, rfl, .agg _ _ (.cons _ _ _ _ (.ptr _ _ _ rfl) (.cons _ _ _ _ (.ptr _ _ _ rfl) (.cons _ _ _ _ (.ptr _ _ _ rfl) .nil)))⟩, (sI rfl), (sI rfl), (sI rfl), tv⟩ ⟨⟨by decide, _, rfl, by refine zBr (b1 := 3) (b2 := 4) (b3 := 5) (b4 := 6) (c1 := 3) (c2 := 4) (c3 := 5) (c4 := 6) ?_ ?_ ?_ ?_ _ _ q an ([] : List RcX) ([] : List RcX) <;> rfl⟩, bpo rfl, bpo rfl, tv⟩ ⟨(zAa layQ (by decide) rfl), (zAa layR (by decide) rfl), (zAa layR (by decide) rfl), (zAa layR (by decide) rfl), tv⟩ (.fn _ _ _ _ _ _ _ (.cons _ _ _ _ (.ptr _ _ _ rfl) (.cons _ _ _ _ (.ptr _ _ _ rfl) .nil)) .nil .nil)
 rintro ⟨i, ns, at'⟩ f ⟨hi, hql, hm⟩
 have hi : i <= numAt B 8 2 := hi
 have hql : ns.length = i := hql
 have hm : mrQ B (numAt B 4 2) ((q.map (Sum.inl (β := RcX)) ++ an.map (Sum.inr (α := QuX))) ++ ns.map .inr) at' := hm
 have hnn : numAt B 8 2 < 65536 := zDc B 8
 have hpl : ((q.map (Sum.inl (β := RcX)) ++ an.map (Sum.inr (α := QuX)))).length = numAt B 4 2 + numAt B 6 2 := by simp only [aB, aT]; omega
 refine zAs tbRm2 [] 0 _ none mixed _ _ _ ?_
 refine ifK (fun h1 => ?_) (fun h1 => ?_)
 ·have hlt : i < numAt B 8 2 := by have h1 : ((i : Nat) : Int) < ((numAt B 8 2 : Nat) : Int) := oT h1; omega
  refine eI (B, at') (aI ⟨rfl, hne, by show B.length <= _; omega⟩ ?_)
  rintro ⟨x, nx, e, p⟩ hQ
  have hQ : recQ B at' (rcT (x, nx, e, p)) := hQ
  have hpl2 : ((q.map (Sum.inl (β := RcX)) ++ an.map (Sum.inr (α := QuX))) ++ ns.map (Sum.inr (α := QuX))).length = numAt B 4 2 + numAt B 6 2 + i := by rw [aB, hpl, aT, hql]
  refine ifK (fun h2 => ?_) (fun h2 => ?_)
  ·have he : e ≠ 0 := by have h2 : (e != 0) = true := h2; simpa using h2
   have hb : mrBad B (numAt B 4 2) ((q.map (Sum.inl (β := RcX)) ++ an.map (Sum.inr (α := QuX))) ++ ns.map .inr) at' e p := .inr ⟨by rw [hpl2]; omega, x, nx, hQ⟩
   have ht : ((q.map (Sum.inl (β := RcX)) ++ an.map (Sum.inr (α := QuX))) ++ ns.map (Sum.inr (α := QuX))).length < totB B := by rw [hpl2]; unfold totB; omega
   cases q with
   | nil =>
    cases an with
    | nil =>
     cases ns with
     | nil =>
      refine aI (by kernel_rfl) ?_
      refine aI rfl (zAi (q := ([] : List QuX)) (an := ([] : List RcX)) (ns := ([] : List RcX)) (ar := ([] : List RcX)) rfl rfl rfl rfl rfl rfl rfl rfl rfl rfl rfl (fun f => ?_))
      refine aI rfl (zAp (q := ([] : List QuX)) (an := ([] : List RcX)) (ns := ([] : List RcX)) (ar := ([] : List RcX)) rfl rfl rfl rfl rfl rfl rfl rfl rfl rfl rfl (fun f => ?_))
      refine Eq.mpr (zBb e he _ _ _ _ _ _ p _ f) ?_
      exact zAg (.fault ⟨g2, g1⟩ hm ht hb he) he
     | cons ns0 nss =>
      refine aI (by kernel_rfl) ?_
      refine aI rfl (zAi (q := ([] : List QuX)) (an := ([] : List RcX)) (ns := (ns0 :: nss)) (ar := ([] : List RcX)) rfl rfl rfl rfl rfl rfl rfl rfl rfl rfl rfl (fun f => ?_))
      refine aI rfl (zAp (q := ([] : List QuX)) (an := ([] : List RcX)) (ns := (ns0 :: nss)) (ar := ([] : List RcX)) rfl rfl rfl rfl rfl rfl rfl rfl rfl rfl rfl (fun f => ?_))
      refine Eq.mpr (zBb e he _ _ _ _ _ _ p _ f) ?_
      exact zAg (.fault ⟨g2, g1⟩ hm ht hb he) he
    | cons an0 ans =>
     cases ns with
     | nil =>
      refine aI (by kernel_rfl) ?_
      refine aI rfl (zAi (q := ([] : List QuX)) (an := (an0 :: ans)) (ns := ([] : List RcX)) (ar := ([] : List RcX)) rfl rfl rfl rfl rfl rfl rfl rfl rfl rfl rfl (fun f => ?_))
      refine aI rfl (zAp (q := ([] : List QuX)) (an := (an0 :: ans)) (ns := ([] : List RcX)) (ar := ([] : List RcX)) rfl rfl rfl rfl rfl rfl rfl rfl rfl rfl rfl (fun f => ?_))
      refine Eq.mpr (zBb e he _ _ _ _ _ _ p _ f) ?_
      exact zAg (.fault ⟨g2, g1⟩ hm ht hb he) he
     | cons ns0 nss =>
      refine aI (by kernel_rfl) ?_
      refine aI rfl (zAi (q := ([] : List QuX)) (an := (an0 :: ans)) (ns := (ns0 :: nss)) (ar := ([] : List RcX)) rfl rfl rfl rfl rfl rfl rfl rfl rfl rfl rfl (fun f => ?_))
      refine aI rfl (zAp (q := ([] : List QuX)) (an := (an0 :: ans)) (ns := (ns0 :: nss)) (ar := ([] : List RcX)) rfl rfl rfl rfl rfl rfl rfl rfl rfl rfl rfl (fun f => ?_))
      refine Eq.mpr (zBb e he _ _ _ _ _ _ p _ f) ?_
      exact zAg (.fault ⟨g2, g1⟩ hm ht hb he) he
   | cons q0 qs =>
    cases an with
    | nil =>
     cases ns with
     | nil =>
      refine aI (by kernel_rfl) ?_
      refine aI rfl (zAi (q := (q0 :: qs)) (an := ([] : List RcX)) (ns := ([] : List RcX)) (ar := ([] : List RcX)) rfl rfl rfl rfl rfl rfl rfl rfl rfl rfl rfl (fun f => ?_))
      refine aI rfl (zAp (q := (q0 :: qs)) (an := ([] : List RcX)) (ns := ([] : List RcX)) (ar := ([] : List RcX)) rfl rfl rfl rfl rfl rfl rfl rfl rfl rfl rfl (fun f => ?_))
      refine Eq.mpr (zBb e he _ _ _ _ _ _ p _ f) ?_
      exact zAg (.fault ⟨g2, g1⟩ hm ht hb he) he
     | cons ns0 nss =>
      refine aI (by kernel_rfl) ?_
      refine aI rfl (zAi (q := (q0 :: qs)) (an := ([] : List RcX)) (ns := (ns0 :: nss)) (ar := ([] : List RcX)) rfl rfl rfl rfl rfl rfl rfl rfl rfl rfl rfl (fun f => ?_))
      refine aI rfl (zAp (q := (q0 :: qs)) (an := ([] : List RcX)) (ns := (ns0 :: nss)) (ar := ([] : List RcX)) rfl rfl rfl rfl rfl rfl rfl rfl rfl rfl rfl (fun f => ?_))
      refine Eq.mpr (zBb e he _ _ _ _ _ _ p _ f) ?_
      exact zAg (.fault ⟨g2, g1⟩ hm ht hb he) he
    | cons an0 ans =>
     cases ns with
     | nil =>
      refine aI (by kernel_rfl) ?_
      refine aI rfl (zAi (q := (q0 :: qs)) (an := (an0 :: ans)) (ns := ([] : List RcX)) (ar := ([] : List RcX)) rfl rfl rfl rfl rfl rfl rfl rfl rfl rfl rfl (fun f => ?_))
      refine aI rfl (zAp (q := (q0 :: qs)) (an := (an0 :: ans)) (ns := ([] : List RcX)) (ar := ([] : List RcX)) rfl rfl rfl rfl rfl rfl rfl rfl rfl rfl rfl (fun f => ?_))
      refine Eq.mpr (zBb e he _ _ _ _ _ _ p _ f) ?_
      exact zAg (.fault ⟨g2, g1⟩ hm ht hb he) he
     | cons ns0 nss =>
      refine aI (by kernel_rfl) ?_
      refine aI rfl (zAi (q := (q0 :: qs)) (an := (an0 :: ans)) (ns := (ns0 :: nss)) (ar := ([] : List RcX)) rfl rfl rfl rfl rfl rfl rfl rfl rfl rfl rfl (fun f => ?_))
      refine aI rfl (zAp (q := (q0 :: qs)) (an := (an0 :: ans)) (ns := (ns0 :: nss)) (ar := ([] : List RcX)) rfl rfl rfl rfl rfl rfl rfl rfl rfl rfl rfl (fun f => ?_))
      refine Eq.mpr (zBb e he _ _ _ _ _ _ p _ f) ?_
      exact zAg (.fault ⟨g2, g1⟩ hm ht hb he) he
  have he : e = 0 := by have h2 : (e != 0) = false := h2; simpa using h2
  subst he
  have hm2 : mrQ B (numAt B 4 2) ((q.map (Sum.inl (β := RcX)) ++ an.map (Sum.inr (α := QuX))) ++ (ns ++ [x]).map .inr) nx := by
   rw [List.map_append, <- aN]
   exact .r hm (by rw [hpl2]; omega) hQ
  cases q with
  | nil =>
   cases an with
   | nil =>
    cases ns with
    | nil =>
     refine aI (by kernel_rfl) ?_
     refine ⟨(i + 1, [x], nx), ⟨hlt, by rw [<- hql]; rfl, hm2⟩, by show numAt B 8 2 - (i + 1) < numAt B 8 2 - i; omega, ?_⟩
     exact zAe [0, 1, 2, 3, 4, 10, 6] rfl rfl rfl (fun l e => by cases e) (by decide) (by decide) rfl rfl (zAt rfl) ⟨⟨_, rfl, zAh 8 rfl⟩, (sP rfl rfl), (sP rfl rfl), (sP rfl rfl), (sI rfl), (sP rfl rfl), ⟨_, rfl, .agg _ _ (.cons _ _ _ _ (.ptr _ _ _ rfl) (.cons _ _ _ _ (.ptr _ _ _ rfl) (.cons _ _ _ _ (.ptr _ _ _ rfl) .nil)))⟩, (sI rfl), (sI rfl), zAd rfl (by rw [wrapN (by omega) (by omega)]; omega), tv⟩ ⟨⟨by decide, _, rfl, by show RO _ _ (.cells [.int .i64 _, .int .i64 _, lsV 3 ([] : List QuX), lsV 4 ([] : List RcX), lsV 10 [x], lsV 6 ([] : List RcX)] _) _; refine zBr (b1 := 3) (b2 := 4) (b3 := 10) (b4 := 6) (c1 := 3) (c2 := 4) (c3 := 5) (c4 := 6) ?_ ?_ ?_ ?_ _ _ ([] : List QuX) ([] : List RcX) [x] ([] : List RcX) <;> rfl⟩, bpo rfl, bpo rfl, tv⟩ ⟨(zAa layQ (by decide) rfl), (zAa layR (by decide) rfl), (fun o ho => ⟨by decide, _, rfl, by cases ho; exact zBm rfl rfl⟩), (zAa layR (by decide) rfl), tv⟩ (.fn _ _ _ _ _ _ _ (.cons _ _ _ _ (.ptr _ _ _ rfl) (.cons _ _ _ _ (.ptr _ _ _ rfl) .nil)) .nil .nil)
    | cons y ys =>
     have hfl : (List.flatMap layR.g (y :: ys)).length = (ys.length + 1) * 5 := zAc layR.g 5 layR.len (y :: ys)
     have hyl : ys.length + 1 = i := hql
     refine aI (by kernel_rfl) ?_
     refine aI (by rw [hszR, hbyR]; simp only [bA, dT]; exact ⟨⟨⟨⟨⟨⟨rfl, rfl⟩, bL (by rw [hfl]; omega)⟩, rfl⟩, by omega⟩, by omega⟩, bL (by rw [hfl]; show (ys.length + 1) * 5 + 1 <= 0 + (ys.length + 1) * 5 + 5; omega)⟩) ?_
     have ec : List.take ((ys.length + 1) * 5) (List.flatMap layR.g (y :: ys)) ++ layR.g x = (y :: (ys ++ [x])).flatMap layR.g := by rw [aD (by rw [hfl]; omega), <- bC, List.flatMap_append]; simp
     refine ⟨(i + 1, y :: (ys ++ [x]), nx), ⟨hlt, by show (y :: (ys ++ [x])).length = _; simp; omega, hm2⟩, by show numAt B 8 2 - (i + 1) < numAt B 8 2 - i; omega, ?_⟩
     exact zAe [0, 1, 2, 3, 4, 10, 6] rfl rfl rfl (fun l e => by cases e) (by decide) (by decide) rfl rfl (zAt rfl) ⟨⟨_, rfl, zAh 8 rfl⟩, (sP rfl rfl), (sP rfl rfl), (sP rfl rfl), (sI rfl), (sP rfl rfl), ⟨_, rfl, .agg _ _ (.cons _ _ _ _ (.ptr _ _ _ rfl) (.cons _ _ _ _ (.ptr _ _ _ rfl) (.cons _ _ _ _ (.ptr _ _ _ rfl) .nil)))⟩, (sI rfl), (sI rfl), zAd rfl (by rw [wrapN (by omega) (by omega)]; omega), tv⟩ ⟨⟨by decide, _, rfl, by show RO _ _ (.cells [.int .i64 _, .int .i64 _, lsV 3 ([] : List QuX), lsV 4 ([] : List RcX), sq 10 (ys.length + 1 + 1) U, lsV 6 ([] : List RcX)] _) _; rw [zBj y ys x 10]; refine zBr (b1 := 3) (b2 := 4) (b3 := 10) (b4 := 6) (c1 := 3) (c2 := 4) (c3 := 5) (c4 := 6) ?_ ?_ ?_ ?_ _ _ ([] : List QuX) ([] : List RcX) (y :: (ys ++ [x])) ([] : List RcX) <;> rfl⟩, bpo rfl, bpo rfl, tv⟩ ⟨(zAa layQ (by decide) rfl), (zAa layR (by decide) rfl), (fun o ho => ⟨by decide, _, rfl, by cases ho; exact zBm (by rw [<- ec]; rfl) (zAf layR.g layR.plain _)⟩), (zAa layR (by decide) rfl), tv⟩ (.fn _ _ _ _ _ _ _ (.cons _ _ _ _ (.ptr _ _ _ rfl) (.cons _ _ _ _ (.ptr _ _ _ rfl) .nil)) .nil .nil)
   | cons an0 ans =>
    cases ns with
    | nil =>
     refine aI (by kernel_rfl) ?_
     refine ⟨(i + 1, [x], nx), ⟨hlt, by rw [<- hql]; rfl, hm2⟩, by show numAt B 8 2 - (i + 1) < numAt B 8 2 - i; omega, ?_⟩
     exact zAe [0, 1, 2, 3, 4, 10, 6] rfl rfl rfl (fun l e => by cases e) (by decide) (by decide) rfl rfl (zAt rfl) ⟨⟨_, rfl, zAh 8 rfl⟩, (sP rfl rfl), (sP rfl rfl), (sP rfl rfl), (sI rfl), (sP rfl rfl), ⟨_, rfl, .agg _ _ (.cons _ _ _ _ (.ptr _ _ _ rfl) (.cons _ _ _ _ (.ptr _ _ _ rfl) (.cons _ _ _ _ (.ptr _ _ _ rfl) .nil)))⟩, (sI rfl), (sI rfl), zAd rfl (by rw [wrapN (by omega) (by omega)]; omega), tv⟩ ⟨⟨by decide, _, rfl, by show RO _ _ (.cells [.int .i64 _, .int .i64 _, lsV 3 ([] : List QuX), lsV 4 (an0 :: ans), lsV 10 [x], lsV 6 ([] : List RcX)] _) _; refine zBr (b1 := 3) (b2 := 4) (b3 := 10) (b4 := 6) (c1 := 3) (c2 := 4) (c3 := 5) (c4 := 6) ?_ ?_ ?_ ?_ _ _ ([] : List QuX) (an0 :: ans) [x] ([] : List RcX) <;> rfl⟩, bpo rfl, bpo rfl, tv⟩ ⟨(zAa layQ (by decide) rfl), (zAa layR (by decide) rfl), (fun o ho => ⟨by decide, _, rfl, by cases ho; exact zBm rfl rfl⟩), (zAa layR (by decide) rfl), tv⟩ (.fn _ _ _ _ _ _ _ (.cons _ _ _ _ (.ptr _ _ _ rfl) (.cons _ _ _ _ (.ptr _ _ _ rfl) .nil)) .nil .nil)
    | cons y ys =>
     have hfl : (List.flatMap layR.g (y :: ys)).length = (ys.length + 1) * 5 := zAc layR.g 5 layR.len (y :: ys)
     have hyl : ys.length + 1 = i := hql
     refine aI (by kernel_rfl) ?_
     refine aI (by rw [hszR, hbyR]; simp only [bA, dT]; exact ⟨⟨⟨⟨⟨⟨rfl, rfl⟩, bL (by rw [hfl]; omega)⟩, rfl⟩, by omega⟩, by omega⟩, bL (by rw [hfl]; show (ys.length + 1) * 5 + 1 <= 0 + (ys.length + 1) * 5 + 5; omega)⟩) ?_
     have ec : List.take ((ys.length + 1) * 5) (List.flatMap layR.g (y :: ys)) ++ layR.g x = (y :: (ys ++ [x])).flatMap layR.g := by rw [aD (by rw [hfl]; omega), <- bC, List.flatMap_append]; simp
     refine ⟨(i + 1, y :: (ys ++ [x]), nx), ⟨hlt, by show (y :: (ys ++ [x])).length = _; simp; omega, hm2⟩, by show numAt B 8 2 - (i + 1) < numAt B 8 2 - i; omega, ?_⟩
     exact zAe [0, 1, 2, 3, 4, 10, 6] rfl rfl rfl (fun l e => by cases e) (by decide) (by decide) rfl rfl (zAt rfl) ⟨⟨_, rfl, zAh 8 rfl⟩, (sP rfl rfl), (sP rfl rfl), (sP rfl rfl), (sI rfl), (sP rfl rfl), ⟨_, rfl, .agg _ _ (.cons _ _ _ _ (.ptr _ _ _ rfl) (.cons _ _ _ _ (.ptr _ _ _ rfl) (.cons _ _ _ _ (.ptr _ _ _ rfl) .nil)))⟩, (sI rfl), (sI rfl), zAd rfl (by rw [wrapN (by omega) (by omega)]; omega), tv⟩ ⟨⟨by decide, _, rfl, by show RO _ _ (.cells [.int .i64 _, .int .i64 _, lsV 3 ([] : List QuX), lsV 4 (an0 :: ans), sq 10 (ys.length + 1 + 1) U, lsV 6 ([] : List RcX)] _) _; rw [zBj y ys x 10]; refine zBr (b1 := 3) (b2 := 4) (b3 := 10) (b4 := 6) (c1 := 3) (c2 := 4) (c3 := 5) (c4 := 6) ?_ ?_ ?_ ?_ _ _ ([] : List QuX) (an0 :: ans) (y :: (ys ++ [x])) ([] : List RcX) <;> rfl⟩, bpo rfl, bpo rfl, tv⟩ ⟨(zAa layQ (by decide) rfl), (zAa layR (by decide) rfl), (fun o ho => ⟨by decide, _, rfl, by cases ho; exact zBm (by rw [<- ec]; rfl) (zAf layR.g layR.plain _)⟩), (zAa layR (by decide) rfl), tv⟩ (.fn _ _ _ _ _ _ _ (.cons _ _ _ _ (.ptr _ _ _ rfl) (.cons _ _ _ _ (.ptr _ _ _ rfl) .nil)) .nil .nil)
  | cons q0 qs =>
   cases an with
   | nil =>
    cases ns with
    | nil =>
     refine aI (by kernel_rfl) ?_
     refine ⟨(i + 1, [x], nx), ⟨hlt, by rw [<- hql]; rfl, hm2⟩, by show numAt B 8 2 - (i + 1) < numAt B 8 2 - i; omega, ?_⟩
     exact zAe [0, 1, 2, 3, 4, 10, 6] rfl rfl rfl (fun l e => by cases e) (by decide) (by decide) rfl rfl (zAt rfl) ⟨⟨_, rfl, zAh 8 rfl⟩, (sP rfl rfl), (sP rfl rfl), (sP rfl rfl), (sI rfl), (sP rfl rfl), ⟨_, rfl, .agg _ _ (.cons _ _ _ _ (.ptr _ _ _ rfl) (.cons _ _ _ _ (.ptr _ _ _ rfl) (.cons _ _ _ _ (.ptr _ _ _ rfl) .nil)))⟩, (sI rfl), (sI rfl), zAd rfl (by rw [wrapN (by omega) (by omega)]; omega), tv⟩ ⟨⟨by decide, _, rfl, by show RO _ _ (.cells [.int .i64 _, .int .i64 _, lsV 3 (q0 :: qs), lsV 4 ([] : List RcX), lsV 10 [x], lsV 6 ([] : List RcX)] _) _; refine zBr (b1 := 3) (b2 := 4) (b3 := 10) (b4 := 6) (c1 := 3) (c2 := 4) (c3 := 5) (c4 := 6) ?_ ?_ ?_ ?_ _ _ (q0 :: qs) ([] : List RcX) [x] ([] : List RcX) <;> rfl⟩, bpo rfl, bpo rfl, tv⟩ ⟨(zAa layQ (by decide) rfl), (zAa layR (by decide) rfl), (fun o ho => ⟨by decide, _, rfl, by cases ho; exact zBm rfl rfl⟩), (zAa layR (by decide) rfl), tv⟩ (.fn _ _ _ _ _ _ _ (.cons _ _ _ _ (.ptr _ _ _ rfl) (.cons _ _ _ _ (.ptr _ _ _ rfl) .nil)) .nil .nil)
    | cons y ys =>
     have hfl : (List.flatMap layR.g (y :: ys)).length = (ys.length + 1) * 5 := zAc layR.g 5 layR.len (y :: ys)
     have hyl : ys.length + 1 = i := hql
     refine aI (by kernel_rfl) ?_
     refine aI (by rw [hszR, hbyR]; simp only [bA, dT]; exact ⟨⟨⟨⟨⟨⟨rfl, rfl⟩, bL (by rw [hfl]; omega)⟩, rfl⟩, by omega⟩, by omega⟩, bL (by rw [hfl]; show (ys.length + 1) * 5 + 1 <= 0 + (ys.length + 1) * 5 + 5; omega)⟩) ?_
     have ec : List.take ((ys.length + 1) * 5) (List.flatMap layR.g (y :: ys)) ++ layR.g x = (y :: (ys ++ [x])).flatMap layR.g := by rw [aD (by rw [hfl]; omega), <- bC, List.flatMap_append]; simp
     refine ⟨(i + 1, y :: (ys ++ [x]), nx), ⟨hlt, by show (y :: (ys ++ [x])).length = _; simp; omega, hm2⟩, by show numAt B 8 2 - (i + 1) < numAt B 8 2 - i; omega, ?_⟩
     exact zAe [0, 1, 2, 3, 4, 10, 6] rfl rfl rfl (fun l e => by cases e) (by decide) (by decide) rfl rfl (zAt rfl) ⟨⟨_, rfl, zAh 8 rfl⟩, (sP rfl rfl), (sP rfl rfl), (sP rfl rfl), (sI rfl), (sP rfl rfl), ⟨_, rfl, .agg _ _ (.cons _ _ _ _ (.ptr _ _ _ rfl) (.cons _ _ _ _ (.ptr _ _ _ rfl) (.cons _ _ _ _ (.ptr _ _ _ rfl) .nil)))⟩, (sI rfl), (sI rfl), zAd rfl (by rw [wrapN (by omega) (by omega)]; omega), tv⟩ ⟨⟨by decide, _, rfl, by show RO _ _ (.cells [.int .i64 _, .int .i64 _, lsV 3 (q0 :: qs), lsV 4 ([] : List RcX), sq 10 (ys.length + 1 + 1) U, lsV 6 ([] : List RcX)] _) _; rw [zBj y ys x 10]; refine zBr (b1 := 3) (b2 := 4) (b3 := 10) (b4 := 6) (c1 := 3) (c2 := 4) (c3 := 5) (c4 := 6) ?_ ?_ ?_ ?_ _ _ (q0 :: qs) ([] : List RcX) (y :: (ys ++ [x])) ([] : List RcX) <;> rfl⟩, bpo rfl, bpo rfl, tv⟩ ⟨(zAa layQ (by decide) rfl), (zAa layR (by decide) rfl), (fun o ho => ⟨by decide, _, rfl, by cases ho; exact zBm (by rw [<- ec]; rfl) (zAf layR.g layR.plain _)⟩), (zAa layR (by decide) rfl), tv⟩ (.fn _ _ _ _ _ _ _ (.cons _ _ _ _ (.ptr _ _ _ rfl) (.cons _ _ _ _ (.ptr _ _ _ rfl) .nil)) .nil .nil)
   | cons an0 ans =>
    cases ns with
    | nil =>
     refine aI (by kernel_rfl) ?_
     refine ⟨(i + 1, [x], nx), ⟨hlt, by rw [<- hql]; rfl, hm2⟩, by show numAt B 8 2 - (i + 1) < numAt B 8 2 - i; omega, ?_⟩
     exact zAe [0, 1, 2, 3, 4, 10, 6] rfl rfl rfl (fun l e => by cases e) (by decide) (by decide) rfl rfl (zAt rfl) ⟨⟨_, rfl, zAh 8 rfl⟩, (sP rfl rfl), (sP rfl rfl), (sP rfl rfl), (sI rfl), (sP rfl rfl), ⟨_, rfl, .agg _ _ (.cons _ _ _ _ (.ptr _ _ _ rfl) (.cons _ _ _ _ (.ptr _ _ _ rfl) (.cons _ _ _ _ (.ptr _ _ _ rfl) .nil)))⟩, (sI rfl), (sI rfl), zAd rfl (by rw [wrapN (by omega) (by omega)]; omega), tv⟩ ⟨⟨by decide, _, rfl, by show RO _ _ (.cells [.int .i64 _, .int .i64 _, lsV 3 (q0 :: qs), lsV 4 (an0 :: ans), lsV 10 [x], lsV 6 ([] : List RcX)] _) _; refine zBr (b1 := 3) (b2 := 4) (b3 := 10) (b4 := 6) (c1 := 3) (c2 := 4) (c3 := 5) (c4 := 6) ?_ ?_ ?_ ?_ _ _ (q0 :: qs) (an0 :: ans) [x] ([] : List RcX) <;> rfl⟩, bpo rfl, bpo rfl, tv⟩ ⟨(zAa layQ (by decide) rfl), (zAa layR (by decide) rfl), (fun o ho => ⟨by decide, _, rfl, by cases ho; exact zBm rfl rfl⟩), (zAa layR (by decide) rfl), tv⟩ (.fn _ _ _ _ _ _ _ (.cons _ _ _ _ (.ptr _ _ _ rfl) (.cons _ _ _ _ (.ptr _ _ _ rfl) .nil)) .nil .nil)
    | cons y ys =>
     have hfl : (List.flatMap layR.g (y :: ys)).length = (ys.length + 1) * 5 := zAc layR.g 5 layR.len (y :: ys)
     have hyl : ys.length + 1 = i := hql
     refine aI (by kernel_rfl) ?_
     refine aI (by rw [hszR, hbyR]; simp only [bA, dT]; exact ⟨⟨⟨⟨⟨⟨rfl, rfl⟩, bL (by rw [hfl]; omega)⟩, rfl⟩, by omega⟩, by omega⟩, bL (by rw [hfl]; show (ys.length + 1) * 5 + 1 <= 0 + (ys.length + 1) * 5 + 5; omega)⟩) ?_
     have ec : List.take ((ys.length + 1) * 5) (List.flatMap layR.g (y :: ys)) ++ layR.g x = (y :: (ys ++ [x])).flatMap layR.g := by rw [aD (by rw [hfl]; omega), <- bC, List.flatMap_append]; simp
     refine ⟨(i + 1, y :: (ys ++ [x]), nx), ⟨hlt, by show (y :: (ys ++ [x])).length = _; simp; omega, hm2⟩, by show numAt B 8 2 - (i + 1) < numAt B 8 2 - i; omega, ?_⟩
     exact zAe [0, 1, 2, 3, 4, 10, 6] rfl rfl rfl (fun l e => by cases e) (by decide) (by decide) rfl rfl (zAt rfl) ⟨⟨_, rfl, zAh 8 rfl⟩, (sP rfl rfl), (sP rfl rfl), (sP rfl rfl), (sI rfl), (sP rfl rfl), ⟨_, rfl, .agg _ _ (.cons _ _ _ _ (.ptr _ _ _ rfl) (.cons _ _ _ _ (.ptr _ _ _ rfl) (.cons _ _ _ _ (.ptr _ _ _ rfl) .nil)))⟩, (sI rfl), (sI rfl), zAd rfl (by rw [wrapN (by omega) (by omega)]; omega), tv⟩ ⟨⟨by decide, _, rfl, by show RO _ _ (.cells [.int .i64 _, .int .i64 _, lsV 3 (q0 :: qs), lsV 4 (an0 :: ans), sq 10 (ys.length + 1 + 1) U, lsV 6 ([] : List RcX)] _) _; rw [zBj y ys x 10]; refine zBr (b1 := 3) (b2 := 4) (b3 := 10) (b4 := 6) (c1 := 3) (c2 := 4) (c3 := 5) (c4 := 6) ?_ ?_ ?_ ?_ _ _ (q0 :: qs) (an0 :: ans) (y :: (ys ++ [x])) ([] : List RcX) <;> rfl⟩, bpo rfl, bpo rfl, tv⟩ ⟨(zAa layQ (by decide) rfl), (zAa layR (by decide) rfl), (fun o ho => ⟨by decide, _, rfl, by cases ho; exact zBm (by rw [<- ec]; rfl) (zAf layR.g layR.plain _)⟩), (zAa layR (by decide) rfl), tv⟩ (.fn _ _ _ _ _ _ _ (.cons _ _ _ _ (.ptr _ _ _ rfl) (.cons _ _ _ _ (.ptr _ _ _ rfl) .nil)) .nil .nil)
 have hiq : i = numAt B 8 2 := by have h1 : ¬ ((i : Nat) : Int) < ((numAt B 8 2 : Nat) : Int) := oF h1; omega
 subst hiq
 have hlns : ns.length = numAt B 8 2 := hql
 refine aI rfl (zAk (zAe [0, 1, 2, 3, 4, 5, 6] rfl rfl rfl (fun l e => by cases e) (by decide) (by decide) rfl rfl (zAt rfl) (d := 7) (d2 := 3) (lv := [(0, trB B), (2, pt 0), (3, pt 1), (4, pt 2), (5, .int .i64 at'), (73, .agg #[.pointer (some ⟨0, 3, none⟩), .pointer (some ⟨0, 4, none⟩), .pointer (some ⟨0, 5, none⟩)]), (74, .int .i64 1)]) (bs := [(0, .cells [.int .i64 (numAt B 0 2 : Nat), .int .i64 (numAt B 2 2 : Nat), lsV 3 q, lsV 4 an, lsV 5 ns, lsV 6 ([] : List RcX)] 25), (1, .cells [.int .i64 0, .int .i64 0] 48), (2, .cells [.int .i64 (numAt B 0 2 : Nat), .int .i64 (numAt B 2 2 : Nat), .int .i64 (numAt B 4 2 : Nat), .int .i64 (numAt B 6 2 : Nat), .int .i64 (numAt B 8 2 : Nat), .int .i64 (numAt B 10 2 : Nat)] 85)]) (bo := [(3, lsO layQ q), (4, lsO layR an), (5, lsO layR ns), (6, lsO layR ([] : List RcX))]) (W := []) (m := 7) (df := [.call 60 [pt 1, pt 0] []]) ⟨⟨_, rfl, zAh 8 rfl⟩, (sP rfl rfl), (sP rfl rfl), (sP rfl rfl), (sI rfl), ⟨_, rfl, .agg _ _ (.cons _ _ _ _ (.ptr _ _ _ rfl) (.cons _ _ _ _ (.ptr _ _ _ rfl) (.cons _ _ _ _ (.ptr _ _ _ rfl) .nil)))⟩, (sI rfl), tv⟩ ⟨⟨by decide, _, rfl, by refine zBr (b1 := 3) (b2 := 4) (b3 := 5) (b4 := 6) (c1 := 3) (c2 := 4) (c3 := 5) (c4 := 6) ?_ ?_ ?_ ?_ _ _ q an ns ([] : List RcX) <;> rfl⟩, bpo rfl, bpo rfl, tv⟩ ⟨(zAa layQ (by decide) rfl), (zAa layR (by decide) rfl), (zAa layR (by decide) rfl), (zAa layR (by decide) rfl), tv⟩ (.fn _ _ _ _ _ _ _ (.cons _ _ _ _ (.ptr _ _ _ rfl) (.cons _ _ _ _ (.ptr _ _ _ rfl) .nil)) .nil .nil)) (fun f => ?_))
 refine LW.round ?_
 refine zAs tbRm2 [] 0 _ none mixed _ _ _ ?_
 refine zAv (fun (x : Nat × List RcX × Int) => rmS2 B (numAt B 10 2) 2 q an ns x.2.1 x.2.2 x.1) (fun x => numAt B 10 2 - x.1) (fun x => x.1 <= numAt B 10 2 /\ x.2.1.length = x.1 /\ mrQ B (numAt B 4 2) (((q.map (Sum.inl (β := RcX)) ++ an.map (Sum.inr (α := QuX))) ++ ns.map (Sum.inr (α := QuX))) ++ x.2.1.map .inr) x.2.2) (0, [], at') ⟨aH _, rfl, by rw [List.map_nil, aF]; exact hm⟩ ?_ ?_
 ·exact zAe [0, 1, 2, 3, 4, 5, 6] rfl rfl rfl (fun l e => by cases e) (by decide) (by decide) rfl rfl (zAt rfl) ⟨⟨_, rfl, zAh 8 rfl⟩, (sP rfl rfl), (sP rfl rfl), (sP rfl rfl), (sI rfl), (sP rfl rfl), ⟨_, rfl, .agg _ _ (.cons _ _ _ _ (.ptr _ _ _ rfl) (.cons _ _ _ _ (.ptr _ _ _ rfl) (.cons _ _ _ _ (.ptr _ _ _ rfl) .nil)))⟩, (sI rfl), (sI rfl), (sI rfl), tv⟩ ⟨⟨by decide, _, rfl, by refine zBr (b1 := 3) (b2 := 4) (b3 := 5) (b4 := 6) (c1 := 3) (c2 := 4) (c3 := 5) (c4 := 6) ?_ ?_ ?_ ?_ _ _ q an ns ([] : List RcX) <;> rfl⟩, bpo rfl, bpo rfl, tv⟩ ⟨(zAa layQ (by decide) rfl), (zAa layR (by decide) rfl), (zAa layR (by decide) rfl), (zAa layR (by decide) rfl), tv⟩ (.fn _ _ _ _ _ _ _ (.cons _ _ _ _ (.ptr _ _ _ rfl) (.cons _ _ _ _ (.ptr _ _ _ rfl) .nil)) .nil .nil)
 rintro ⟨i, ar, at'⟩ f ⟨hi, hql, hm⟩
 have hi : i <= numAt B 10 2 := hi
 have hql : ar.length = i := hql
 have hm : mrQ B (numAt B 4 2) (((q.map (Sum.inl (β := RcX)) ++ an.map (Sum.inr (α := QuX))) ++ ns.map (Sum.inr (α := QuX))) ++ ar.map .inr) at' := hm
 have hnn : numAt B 10 2 < 65536 := zDc B 10
 have hpl : (((q.map (Sum.inl (β := RcX)) ++ an.map (Sum.inr (α := QuX))) ++ ns.map (Sum.inr (α := QuX)))).length = numAt B 4 2 + numAt B 6 2 + numAt B 8 2 := by simp only [aB, aT]; omega
 refine zAs tbRm2 [] 0 _ none mixed _ _ _ ?_
 refine ifK (fun h1 => ?_) (fun h1 => ?_)
 ·have hlt : i < numAt B 10 2 := by have h1 : ((i : Nat) : Int) < ((numAt B 10 2 : Nat) : Int) := oT h1; omega
  refine eI (B, at') (aI ⟨rfl, hne, by show B.length <= _; omega⟩ ?_)
  rintro ⟨x, nx, e, p⟩ hQ
  have hQ : recQ B at' (rcT (x, nx, e, p)) := hQ
  have hpl2 : (((q.map (Sum.inl (β := RcX)) ++ an.map (Sum.inr (α := QuX))) ++ ns.map (Sum.inr (α := QuX))) ++ ar.map (Sum.inr (α := QuX))).length = numAt B 4 2 + numAt B 6 2 + numAt B 8 2 + i := by rw [aB, hpl, aT, hql]
  refine ifK (fun h2 => ?_) (fun h2 => ?_)
  ·have he : e ≠ 0 := by have h2 : (e != 0) = true := h2; simpa using h2
   have hb : mrBad B (numAt B 4 2) (((q.map (Sum.inl (β := RcX)) ++ an.map (Sum.inr (α := QuX))) ++ ns.map (Sum.inr (α := QuX))) ++ ar.map .inr) at' e p := .inr ⟨by rw [hpl2]; omega, x, nx, hQ⟩
   have ht : (((q.map (Sum.inl (β := RcX)) ++ an.map (Sum.inr (α := QuX))) ++ ns.map (Sum.inr (α := QuX))) ++ ar.map (Sum.inr (α := QuX))).length < totB B := by rw [hpl2]; unfold totB; omega
   cases q with
   | nil =>
    cases an with
    | nil =>
     cases ns with
     | nil =>
      cases ar with
      | nil =>
       refine aI (by kernel_rfl) ?_
       refine aI rfl (zAi (q := ([] : List QuX)) (an := ([] : List RcX)) (ns := ([] : List RcX)) (ar := ([] : List RcX)) rfl rfl rfl rfl rfl rfl rfl rfl rfl rfl rfl (fun f => ?_))
       refine aI rfl (zAp (q := ([] : List QuX)) (an := ([] : List RcX)) (ns := ([] : List RcX)) (ar := ([] : List RcX)) rfl rfl rfl rfl rfl rfl rfl rfl rfl rfl rfl (fun f => ?_))
       refine Eq.mpr (zBb e he _ _ _ _ _ _ p _ f) ?_
       exact zAg (.fault ⟨g2, g1⟩ hm ht hb he) he
      | cons ar0 ars =>
       refine aI (by kernel_rfl) ?_
       refine aI rfl (zAi (q := ([] : List QuX)) (an := ([] : List RcX)) (ns := ([] : List RcX)) (ar := (ar0 :: ars)) rfl rfl rfl rfl rfl rfl rfl rfl rfl rfl rfl (fun f => ?_))
       refine aI rfl (zAp (q := ([] : List QuX)) (an := ([] : List RcX)) (ns := ([] : List RcX)) (ar := (ar0 :: ars)) rfl rfl rfl rfl rfl rfl rfl rfl rfl rfl rfl (fun f => ?_))
       refine Eq.mpr (zBb e he _ _ _ _ _ _ p _ f) ?_
       exact zAg (.fault ⟨g2, g1⟩ hm ht hb he) he
     | cons ns0 nss =>
      cases ar with
      | nil =>
       refine aI (by kernel_rfl) ?_
       refine aI rfl (zAi (q := ([] : List QuX)) (an := ([] : List RcX)) (ns := (ns0 :: nss)) (ar := ([] : List RcX)) rfl rfl rfl rfl rfl rfl rfl rfl rfl rfl rfl (fun f => ?_))
       refine aI rfl (zAp (q := ([] : List QuX)) (an := ([] : List RcX)) (ns := (ns0 :: nss)) (ar := ([] : List RcX)) rfl rfl rfl rfl rfl rfl rfl rfl rfl rfl rfl (fun f => ?_))
       refine Eq.mpr (zBb e he _ _ _ _ _ _ p _ f) ?_
       exact zAg (.fault ⟨g2, g1⟩ hm ht hb he) he
      | cons ar0 ars =>
       refine aI (by kernel_rfl) ?_
       refine aI rfl (zAi (q := ([] : List QuX)) (an := ([] : List RcX)) (ns := (ns0 :: nss)) (ar := (ar0 :: ars)) rfl rfl rfl rfl rfl rfl rfl rfl rfl rfl rfl (fun f => ?_))
       refine aI rfl (zAp (q := ([] : List QuX)) (an := ([] : List RcX)) (ns := (ns0 :: nss)) (ar := (ar0 :: ars)) rfl rfl rfl rfl rfl rfl rfl rfl rfl rfl rfl (fun f => ?_))
       refine Eq.mpr (zBb e he _ _ _ _ _ _ p _ f) ?_
       exact zAg (.fault ⟨g2, g1⟩ hm ht hb he) he
    | cons an0 ans =>
     cases ns with
     | nil =>
      cases ar with
      | nil =>
       refine aI (by kernel_rfl) ?_
       refine aI rfl (zAi (q := ([] : List QuX)) (an := (an0 :: ans)) (ns := ([] : List RcX)) (ar := ([] : List RcX)) rfl rfl rfl rfl rfl rfl rfl rfl rfl rfl rfl (fun f => ?_))
       refine aI rfl (zAp (q := ([] : List QuX)) (an := (an0 :: ans)) (ns := ([] : List RcX)) (ar := ([] : List RcX)) rfl rfl rfl rfl rfl rfl rfl rfl rfl rfl rfl (fun f => ?_))
       refine Eq.mpr (zBb e he _ _ _ _ _ _ p _ f) ?_
       exact zAg (.fault ⟨g2, g1⟩ hm ht hb he) he
      | cons ar0 ars =>
       refine aI (by kernel_rfl) ?_
       refine aI rfl (zAi (q := ([] : List QuX)) (an := (an0 :: ans)) (ns := ([] : List RcX)) (ar := (ar0 :: ars)) rfl rfl rfl rfl rfl rfl rfl rfl rfl rfl rfl (fun f => ?_))
       refine aI rfl (zAp (q := ([] : List QuX)) (an := (an0 :: ans)) (ns := ([] : List RcX)) (ar := (ar0 :: ars)) rfl rfl rfl rfl rfl rfl rfl rfl rfl rfl rfl (fun f => ?_))
       refine Eq.mpr (zBb e he _ _ _ _ _ _ p _ f) ?_
       exact zAg (.fault ⟨g2, g1⟩ hm ht hb he) he
     | cons ns0 nss =>
      cases ar with
      | nil =>
       refine aI (by kernel_rfl) ?_
       refine aI rfl (zAi (q := ([] : List QuX)) (an := (an0 :: ans)) (ns := (ns0 :: nss)) (ar := ([] : List RcX)) rfl rfl rfl rfl rfl rfl rfl rfl rfl rfl rfl (fun f => ?_))
       refine aI rfl (zAp (q := ([] : List QuX)) (an := (an0 :: ans)) (ns := (ns0 :: nss)) (ar := ([] : List RcX)) rfl rfl rfl rfl rfl rfl rfl rfl rfl rfl rfl (fun f => ?_))
       refine Eq.mpr (zBb e he _ _ _ _ _ _ p _ f) ?_
       exact zAg (.fault ⟨g2, g1⟩ hm ht hb he) he
      | cons ar0 ars =>
       refine aI (by kernel_rfl) ?_
       refine aI rfl (zAi (q := ([] : List QuX)) (an := (an0 :: ans)) (ns := (ns0 :: nss)) (ar := (ar0 :: ars)) rfl rfl rfl rfl rfl rfl rfl rfl rfl rfl rfl (fun f => ?_))
       refine aI rfl (zAp (q := ([] : List QuX)) (an := (an0 :: ans)) (ns := (ns0 :: nss)) (ar := (ar0 :: ars)) rfl rfl rfl rfl rfl rfl rfl rfl rfl rfl rfl (fun f => ?_))
       refine Eq.mpr (zBb e he _ _ _ _ _ _ p _ f) ?_
       exact zAg (.fault ⟨g2, g1⟩ hm ht hb he) he
   | cons q0 qs =>
    cases an with
    | nil =>
     cases ns with
     | nil =>
      cases ar with
      | nil =>
       refine aI (by kernel_rfl) ?_
       refine aI rfl (zAi (q := (q0 :: qs)) (an := ([] : List RcX)) (ns := ([] : List RcX)) (ar := ([] : List RcX)) rfl rfl rfl rfl rfl rfl rfl rfl rfl rfl rfl (fun f => ?_))
       refine aI rfl (zAp (q := (q0 :: qs)) (an := ([] : List RcX)) (ns := ([] : List RcX)) (ar := ([] : List RcX)) rfl rfl rfl rfl rfl rfl rfl rfl rfl rfl rfl (fun f => ?_))
       refine Eq.mpr (zBb e he _ _ _ _ _ _ p _ f) ?_
       exact zAg (.fault ⟨g2, g1⟩ hm ht hb he) he
      | cons ar0 ars =>
       refine aI (by kernel_rfl) ?_
       refine aI rfl (zAi (q := (q0 :: qs)) (an := ([] : List RcX)) (ns := ([] : List RcX)) (ar := (ar0 :: ars)) rfl rfl rfl rfl rfl rfl rfl rfl rfl rfl rfl (fun f => ?_))
       refine aI rfl (zAp (q := (q0 :: qs)) (an := ([] : List RcX)) (ns := ([] : List RcX)) (ar := (ar0 :: ars)) rfl rfl rfl rfl rfl rfl rfl rfl rfl rfl rfl (fun f => ?_))
       refine Eq.mpr (zBb e he _ _ _ _ _ _ p _ f) ?_
       exact zAg (.fault ⟨g2, g1⟩ hm ht hb he) he
     | cons ns0 nss =>
      cases ar with
      | nil =>
       refine aI (by kernel_rfl) ?_
       refine aI rfl (zAi (q := (q0 :: qs)) (an := ([] : List RcX)) (ns := (ns0 :: nss)) (ar := ([] : List RcX)) rfl rfl rfl rfl rfl rfl rfl rfl rfl rfl rfl (fun f => ?_))
       refine aI rfl (zAp (q := (q0 :: qs)) (an := ([] : List RcX)) (ns := (ns0 :: nss)) (ar := ([] : List RcX)) rfl rfl rfl rfl rfl rfl rfl rfl rfl rfl rfl (fun f => ?_))
       refine Eq.mpr (zBb e he _ _ _ _ _ _ p _ f) ?_
       exact zAg (.fault ⟨g2, g1⟩ hm ht hb he) he
      | cons ar0 ars =>
       refine aI (by kernel_rfl) ?_
       refine aI rfl (zAi (q := (q0 :: qs)) (an := ([] : List RcX)) (ns := (ns0 :: nss)) (ar := (ar0 :: ars)) rfl rfl rfl rfl rfl rfl rfl rfl rfl rfl rfl (fun f => ?_))
       refine aI rfl (zAp (q := (q0 :: qs)) (an := ([] : List RcX)) (ns := (ns0 :: nss)) (ar := (ar0 :: ars)) rfl rfl rfl rfl rfl rfl rfl rfl rfl rfl rfl (fun f => ?_))
       refine Eq.mpr (zBb e he _ _ _ _ _ _ p _ f) ?_
       exact zAg (.fault ⟨g2, g1⟩ hm ht hb he) he
    | cons an0 ans =>
     cases ns with
     | nil =>
      cases ar with
      | nil =>
       refine aI (by kernel_rfl) ?_
       refine aI rfl (zAi (q := (q0 :: qs)) (an := (an0 :: ans)) (ns := ([] : List RcX)) (ar := ([] : List RcX)) rfl rfl rfl rfl rfl rfl rfl rfl rfl rfl rfl (fun f => ?_))
       refine aI rfl (zAp (q := (q0 :: qs)) (an := (an0 :: ans)) (ns := ([] : List RcX)) (ar := ([] : List RcX)) rfl rfl rfl rfl rfl rfl rfl rfl rfl rfl rfl (fun f => ?_))
       refine Eq.mpr (zBb e he _ _ _ _ _ _ p _ f) ?_
       exact zAg (.fault ⟨g2, g1⟩ hm ht hb he) he
      | cons ar0 ars =>
       refine aI (by kernel_rfl) ?_
       refine aI rfl (zAi (q := (q0 :: qs)) (an := (an0 :: ans)) (ns := ([] : List RcX)) (ar := (ar0 :: ars)) rfl rfl rfl rfl rfl rfl rfl rfl rfl rfl rfl (fun f => ?_))
       refine aI rfl (zAp (q := (q0 :: qs)) (an := (an0 :: ans)) (ns := ([] : List RcX)) (ar := (ar0 :: ars)) rfl rfl rfl rfl rfl rfl rfl rfl rfl rfl rfl (fun f => ?_))
       refine Eq.mpr (zBb e he _ _ _ _ _ _ p _ f) ?_
       exact zAg (.fault ⟨g2, g1⟩ hm ht hb he) he
     | cons ns0 nss =>
      cases ar with
      | nil =>
       refine aI (by kernel_rfl) ?_
       refine aI rfl (zAi (q := (q0 :: qs)) (an := (an0 :: ans)) (ns := (ns0 :: nss)) (ar := ([] : List RcX)) rfl rfl rfl rfl rfl rfl rfl rfl rfl rfl rfl (fun f => ?_))
       refine aI rfl (zAp (q := (q0 :: qs)) (an := (an0 :: ans)) (ns := (ns0 :: nss)) (ar := ([] : List RcX)) rfl rfl rfl rfl rfl rfl rfl rfl rfl rfl rfl (fun f => ?_))
       refine Eq.mpr (zBb e he _ _ _ _ _ _ p _ f) ?_
       exact zAg (.fault ⟨g2, g1⟩ hm ht hb he) he
      | cons ar0 ars =>
       refine aI (by kernel_rfl) ?_
       refine aI rfl (zAi (q := (q0 :: qs)) (an := (an0 :: ans)) (ns := (ns0 :: nss)) (ar := (ar0 :: ars)) rfl rfl rfl rfl rfl rfl rfl rfl rfl rfl rfl (fun f => ?_))
       refine aI rfl (zAp (q := (q0 :: qs)) (an := (an0 :: ans)) (ns := (ns0 :: nss)) (ar := (ar0 :: ars)) rfl rfl rfl rfl rfl rfl rfl rfl rfl rfl rfl (fun f => ?_))
       refine Eq.mpr (zBb e he _ _ _ _ _ _ p _ f) ?_
       exact zAg (.fault ⟨g2, g1⟩ hm ht hb he) he
  have he : e = 0 := by have h2 : (e != 0) = false := h2; simpa using h2
  subst he
  have hm2 : mrQ B (numAt B 4 2) (((q.map (Sum.inl (β := RcX)) ++ an.map (Sum.inr (α := QuX))) ++ ns.map (Sum.inr (α := QuX))) ++ (ar ++ [x]).map .inr) nx := by
   rw [List.map_append, <- aN]
   exact .r hm (by rw [hpl2]; omega) hQ
  cases q with
  | nil =>
   cases an with
   | nil =>
    cases ns with
    | nil =>
     cases ar with
     | nil =>
      refine aI (by kernel_rfl) ?_
      refine ⟨(i + 1, [x], nx), ⟨hlt, by rw [<- hql]; rfl, hm2⟩, by show numAt B 10 2 - (i + 1) < numAt B 10 2 - i; omega, ?_⟩
      exact zAe [0, 1, 2, 3, 4, 5, 10] rfl rfl rfl (fun l e => by cases e) (by decide) (by decide) rfl rfl (zAt rfl) ⟨⟨_, rfl, zAh 8 rfl⟩, (sP rfl rfl), (sP rfl rfl), (sP rfl rfl), (sI rfl), (sP rfl rfl), ⟨_, rfl, .agg _ _ (.cons _ _ _ _ (.ptr _ _ _ rfl) (.cons _ _ _ _ (.ptr _ _ _ rfl) (.cons _ _ _ _ (.ptr _ _ _ rfl) .nil)))⟩, (sI rfl), (sI rfl), zAd rfl (by rw [wrapN (by omega) (by omega)]; omega), tv⟩ ⟨⟨by decide, _, rfl, by show RO _ _ (.cells [.int .i64 _, .int .i64 _, lsV 3 ([] : List QuX), lsV 4 ([] : List RcX), lsV 5 ([] : List RcX), lsV 10 [x]] _) _; refine zBr (b1 := 3) (b2 := 4) (b3 := 5) (b4 := 10) (c1 := 3) (c2 := 4) (c3 := 5) (c4 := 6) ?_ ?_ ?_ ?_ _ _ ([] : List QuX) ([] : List RcX) ([] : List RcX) [x] <;> rfl⟩, bpo rfl, bpo rfl, tv⟩ ⟨(zAa layQ (by decide) rfl), (zAa layR (by decide) rfl), (zAa layR (by decide) rfl), (fun o ho => ⟨by decide, _, rfl, by cases ho; exact zBm rfl rfl⟩), tv⟩ (.fn _ _ _ _ _ _ _ (.cons _ _ _ _ (.ptr _ _ _ rfl) (.cons _ _ _ _ (.ptr _ _ _ rfl) .nil)) .nil .nil)
     | cons y ys =>
      have hfl : (List.flatMap layR.g (y :: ys)).length = (ys.length + 1) * 5 := zAc layR.g 5 layR.len (y :: ys)
      have hyl : ys.length + 1 = i := hql
      refine aI (by kernel_rfl) ?_
      refine aI (by rw [hszR, hbyR]; simp only [bA, dT]; exact ⟨⟨⟨⟨⟨⟨rfl, rfl⟩, bL (by rw [hfl]; omega)⟩, rfl⟩, by omega⟩, by omega⟩, bL (by rw [hfl]; show (ys.length + 1) * 5 + 1 <= 0 + (ys.length + 1) * 5 + 5; omega)⟩) ?_
      have ec : List.take ((ys.length + 1) * 5) (List.flatMap layR.g (y :: ys)) ++ layR.g x = (y :: (ys ++ [x])).flatMap layR.g := by rw [aD (by rw [hfl]; omega), <- bC, List.flatMap_append]; simp
      refine ⟨(i + 1, y :: (ys ++ [x]), nx), ⟨hlt, by show (y :: (ys ++ [x])).length = _; simp; omega, hm2⟩, by show numAt B 10 2 - (i + 1) < numAt B 10 2 - i; omega, ?_⟩
      exact zAe [0, 1, 2, 3, 4, 5, 10] rfl rfl rfl (fun l e => by cases e) (by decide) (by decide) rfl rfl (zAt rfl) ⟨⟨_, rfl, zAh 8 rfl⟩, (sP rfl rfl), (sP rfl rfl), (sP rfl rfl), (sI rfl), (sP rfl rfl), ⟨_, rfl, .agg _ _ (.cons _ _ _ _ (.ptr _ _ _ rfl) (.cons _ _ _ _ (.ptr _ _ _ rfl) (.cons _ _ _ _ (.ptr _ _ _ rfl) .nil)))⟩, (sI rfl), (sI rfl), zAd rfl (by rw [wrapN (by omega) (by omega)]; omega), tv⟩ ⟨⟨by decide, _, rfl, by show RO _ _ (.cells [.int .i64 _, .int .i64 _, lsV 3 ([] : List QuX), lsV 4 ([] : List RcX), lsV 5 ([] : List RcX), sq 10 (ys.length + 1 + 1) U] _) _; rw [zBj y ys x 10]; refine zBr (b1 := 3) (b2 := 4) (b3 := 5) (b4 := 10) (c1 := 3) (c2 := 4) (c3 := 5) (c4 := 6) ?_ ?_ ?_ ?_ _ _ ([] : List QuX) ([] : List RcX) ([] : List RcX) (y :: (ys ++ [x])) <;> rfl⟩, bpo rfl, bpo rfl, tv⟩ ⟨(zAa layQ (by decide) rfl), (zAa layR (by decide) rfl), (zAa layR (by decide) rfl), (fun o ho => ⟨by decide, _, rfl, by cases ho; exact zBm (by rw [<- ec]; rfl) (zAf layR.g layR.plain _)⟩), tv⟩ (.fn _ _ _ _ _ _ _ (.cons _ _ _ _ (.ptr _ _ _ rfl) (.cons _ _ _ _ (.ptr _ _ _ rfl) .nil)) .nil .nil)
    | cons ns0 nss =>
     cases ar with
     | nil =>
      refine aI (by kernel_rfl) ?_
      refine ⟨(i + 1, [x], nx), ⟨hlt, by rw [<- hql]; rfl, hm2⟩, by show numAt B 10 2 - (i + 1) < numAt B 10 2 - i; omega, ?_⟩
      exact zAe [0, 1, 2, 3, 4, 5, 10] rfl rfl rfl (fun l e => by cases e) (by decide) (by decide) rfl rfl (zAt rfl) ⟨⟨_, rfl, zAh 8 rfl⟩, (sP rfl rfl), (sP rfl rfl), (sP rfl rfl), (sI rfl), (sP rfl rfl), ⟨_, rfl, .agg _ _ (.cons _ _ _ _ (.ptr _ _ _ rfl) (.cons _ _ _ _ (.ptr _ _ _ rfl) (.cons _ _ _ _ (.ptr _ _ _ rfl) .nil)))⟩, (sI rfl), (sI rfl), zAd rfl (by rw [wrapN (by omega) (by omega)]; omega), tv⟩ ⟨⟨by decide, _, rfl, by show RO _ _ (.cells [.int .i64 _, .int .i64 _, lsV 3 ([] : List QuX), lsV 4 ([] : List RcX), lsV 5 (ns0 :: nss), lsV 10 [x]] _) _; refine zBr (b1 := 3) (b2 := 4) (b3 := 5) (b4 := 10) (c1 := 3) (c2 := 4) (c3 := 5) (c4 := 6) ?_ ?_ ?_ ?_ _ _ ([] : List QuX) ([] : List RcX) (ns0 :: nss) [x] <;> rfl⟩, bpo rfl, bpo rfl, tv⟩ ⟨(zAa layQ (by decide) rfl), (zAa layR (by decide) rfl), (zAa layR (by decide) rfl), (fun o ho => ⟨by decide, _, rfl, by cases ho; exact zBm rfl rfl⟩), tv⟩ (.fn _ _ _ _ _ _ _ (.cons _ _ _ _ (.ptr _ _ _ rfl) (.cons _ _ _ _ (.ptr _ _ _ rfl) .nil)) .nil .nil)
     | cons y ys =>
      have hfl : (List.flatMap layR.g (y :: ys)).length = (ys.length + 1) * 5 := zAc layR.g 5 layR.len (y :: ys)
      have hyl : ys.length + 1 = i := hql
      refine aI (by kernel_rfl) ?_
      refine aI (by rw [hszR, hbyR]; simp only [bA, dT]; exact ⟨⟨⟨⟨⟨⟨rfl, rfl⟩, bL (by rw [hfl]; omega)⟩, rfl⟩, by omega⟩, by omega⟩, bL (by rw [hfl]; show (ys.length + 1) * 5 + 1 <= 0 + (ys.length + 1) * 5 + 5; omega)⟩) ?_
      have ec : List.take ((ys.length + 1) * 5) (List.flatMap layR.g (y :: ys)) ++ layR.g x = (y :: (ys ++ [x])).flatMap layR.g := by rw [aD (by rw [hfl]; omega), <- bC, List.flatMap_append]; simp
      refine ⟨(i + 1, y :: (ys ++ [x]), nx), ⟨hlt, by show (y :: (ys ++ [x])).length = _; simp; omega, hm2⟩, by show numAt B 10 2 - (i + 1) < numAt B 10 2 - i; omega, ?_⟩
      exact zAe [0, 1, 2, 3, 4, 5, 10] rfl rfl rfl (fun l e => by cases e) (by decide) (by decide) rfl rfl (zAt rfl) ⟨⟨_, rfl, zAh 8 rfl⟩, (sP rfl rfl), (sP rfl rfl), (sP rfl rfl), (sI rfl), (sP rfl rfl), ⟨_, rfl, .agg _ _ (.cons _ _ _ _ (.ptr _ _ _ rfl) (.cons _ _ _ _ (.ptr _ _ _ rfl) (.cons _ _ _ _ (.ptr _ _ _ rfl) .nil)))⟩, (sI rfl), (sI rfl), zAd rfl (by rw [wrapN (by omega) (by omega)]; omega), tv⟩ ⟨⟨by decide, _, rfl, by show RO _ _ (.cells [.int .i64 _, .int .i64 _, lsV 3 ([] : List QuX), lsV 4 ([] : List RcX), lsV 5 (ns0 :: nss), sq 10 (ys.length + 1 + 1) U] _) _; rw [zBj y ys x 10]; refine zBr (b1 := 3) (b2 := 4) (b3 := 5) (b4 := 10) (c1 := 3) (c2 := 4) (c3 := 5) (c4 := 6) ?_ ?_ ?_ ?_ _ _ ([] : List QuX) ([] : List RcX) (ns0 :: nss) (y :: (ys ++ [x])) <;> rfl⟩, bpo rfl, bpo rfl, tv⟩ ⟨(zAa layQ (by decide) rfl), (zAa layR (by decide) rfl), (zAa layR (by decide) rfl), (fun o ho => ⟨by decide, _, rfl, by cases ho; exact zBm (by rw [<- ec]; rfl) (zAf layR.g layR.plain _)⟩), tv⟩ (.fn _ _ _ _ _ _ _ (.cons _ _ _ _ (.ptr _ _ _ rfl) (.cons _ _ _ _ (.ptr _ _ _ rfl) .nil)) .nil .nil)
   | cons an0 ans =>
    cases ns with
    | nil =>
     cases ar with
     | nil =>
      refine aI (by kernel_rfl) ?_
      refine ⟨(i + 1, [x], nx), ⟨hlt, by rw [<- hql]; rfl, hm2⟩, by show numAt B 10 2 - (i + 1) < numAt B 10 2 - i; omega, ?_⟩
      exact zAe [0, 1, 2, 3, 4, 5, 10] rfl rfl rfl (fun l e => by cases e) (by decide) (by decide) rfl rfl (zAt rfl) ⟨⟨_, rfl, zAh 8 rfl⟩, (sP rfl rfl), (sP rfl rfl), (sP rfl rfl), (sI rfl), (sP rfl rfl), ⟨_, rfl, .agg _ _ (.cons _ _ _ _ (.ptr _ _ _ rfl) (.cons _ _ _ _ (.ptr _ _ _ rfl) (.cons _ _ _ _ (.ptr _ _ _ rfl) .nil)))⟩, (sI rfl), (sI rfl), zAd rfl (by rw [wrapN (by omega) (by omega)]; omega), tv⟩ ⟨⟨by decide, _, rfl, by show RO _ _ (.cells [.int .i64 _, .int .i64 _, lsV 3 ([] : List QuX), lsV 4 (an0 :: ans), lsV 5 ([] : List RcX), lsV 10 [x]] _) _; refine zBr (b1 := 3) (b2 := 4) (b3 := 5) (b4 := 10) (c1 := 3) (c2 := 4) (c3 := 5) (c4 := 6) ?_ ?_ ?_ ?_ _ _ ([] : List QuX) (an0 :: ans) ([] : List RcX) [x] <;> rfl⟩, bpo rfl, bpo rfl, tv⟩ ⟨(zAa layQ (by decide) rfl), (zAa layR (by decide) rfl), (zAa layR (by decide) rfl), (fun o ho => ⟨by decide, _, rfl, by cases ho; exact zBm rfl rfl⟩), tv⟩ (.fn _ _ _ _ _ _ _ (.cons _ _ _ _ (.ptr _ _ _ rfl) (.cons _ _ _ _ (.ptr _ _ _ rfl) .nil)) .nil .nil)
     | cons y ys =>
      have hfl : (List.flatMap layR.g (y :: ys)).length = (ys.length + 1) * 5 := zAc layR.g 5 layR.len (y :: ys)
      have hyl : ys.length + 1 = i := hql
      refine aI (by kernel_rfl) ?_
      refine aI (by rw [hszR, hbyR]; simp only [bA, dT]; exact ⟨⟨⟨⟨⟨⟨rfl, rfl⟩, bL (by rw [hfl]; omega)⟩, rfl⟩, by omega⟩, by omega⟩, bL (by rw [hfl]; show (ys.length + 1) * 5 + 1 <= 0 + (ys.length + 1) * 5 + 5; omega)⟩) ?_
      have ec : List.take ((ys.length + 1) * 5) (List.flatMap layR.g (y :: ys)) ++ layR.g x = (y :: (ys ++ [x])).flatMap layR.g := by rw [aD (by rw [hfl]; omega), <- bC, List.flatMap_append]; simp
      refine ⟨(i + 1, y :: (ys ++ [x]), nx), ⟨hlt, by show (y :: (ys ++ [x])).length = _; simp; omega, hm2⟩, by show numAt B 10 2 - (i + 1) < numAt B 10 2 - i; omega, ?_⟩
      exact zAe [0, 1, 2, 3, 4, 5, 10] rfl rfl rfl (fun l e => by cases e) (by decide) (by decide) rfl rfl (zAt rfl) ⟨⟨_, rfl, zAh 8 rfl⟩, (sP rfl rfl), (sP rfl rfl), (sP rfl rfl), (sI rfl), (sP rfl rfl), ⟨_, rfl, .agg _ _ (.cons _ _ _ _ (.ptr _ _ _ rfl) (.cons _ _ _ _ (.ptr _ _ _ rfl) (.cons _ _ _ _ (.ptr _ _ _ rfl) .nil)))⟩, (sI rfl), (sI rfl), zAd rfl (by rw [wrapN (by omega) (by omega)]; omega), tv⟩ ⟨⟨by decide, _, rfl, by show RO _ _ (.cells [.int .i64 _, .int .i64 _, lsV 3 ([] : List QuX), lsV 4 (an0 :: ans), lsV 5 ([] : List RcX), sq 10 (ys.length + 1 + 1) U] _) _; rw [zBj y ys x 10]; refine zBr (b1 := 3) (b2 := 4) (b3 := 5) (b4 := 10) (c1 := 3) (c2 := 4) (c3 := 5) (c4 := 6) ?_ ?_ ?_ ?_ _ _ ([] : List QuX) (an0 :: ans) ([] : List RcX) (y :: (ys ++ [x])) <;> rfl⟩, bpo rfl, bpo rfl, tv⟩ ⟨(zAa layQ (by decide) rfl), (zAa layR (by decide) rfl), (zAa layR (by decide) rfl), (fun o ho => ⟨by decide, _, rfl, by cases ho; exact zBm (by rw [<- ec]; rfl) (zAf layR.g layR.plain _)⟩), tv⟩ (.fn _ _ _ _ _ _ _ (.cons _ _ _ _ (.ptr _ _ _ rfl) (.cons _ _ _ _ (.ptr _ _ _ rfl) .nil)) .nil .nil)
    | cons ns0 nss =>
     cases ar with
     | nil =>
      refine aI (by kernel_rfl) ?_
      refine ⟨(i + 1, [x], nx), ⟨hlt, by rw [<- hql]; rfl, hm2⟩, by show numAt B 10 2 - (i + 1) < numAt B 10 2 - i; omega, ?_⟩
      exact zAe [0, 1, 2, 3, 4, 5, 10] rfl rfl rfl (fun l e => by cases e) (by decide) (by decide) rfl rfl (zAt rfl) ⟨⟨_, rfl, zAh 8 rfl⟩, (sP rfl rfl), (sP rfl rfl), (sP rfl rfl), (sI rfl), (sP rfl rfl), ⟨_, rfl, .agg _ _ (.cons _ _ _ _ (.ptr _ _ _ rfl) (.cons _ _ _ _ (.ptr _ _ _ rfl) (.cons _ _ _ _ (.ptr _ _ _ rfl) .nil)))⟩, (sI rfl), (sI rfl), zAd rfl (by rw [wrapN (by omega) (by omega)]; omega), tv⟩ ⟨⟨by decide, _, rfl, by show RO _ _ (.cells [.int .i64 _, .int .i64 _, lsV 3 ([] : List QuX), lsV 4 (an0 :: ans), lsV 5 (ns0 :: nss), lsV 10 [x]] _) _; refine zBr (b1 := 3) (b2 := 4) (b3 := 5) (b4 := 10) (c1 := 3) (c2 := 4) (c3 := 5) (c4 := 6) ?_ ?_ ?_ ?_ _ _ ([] : List QuX) (an0 :: ans) (ns0 :: nss) [x] <;> rfl⟩, bpo rfl, bpo rfl, tv⟩ ⟨(zAa layQ (by decide) rfl), (zAa layR (by decide) rfl), (zAa layR (by decide) rfl), (fun o ho => ⟨by decide, _, rfl, by cases ho; exact zBm rfl rfl⟩), tv⟩ (.fn _ _ _ _ _ _ _ (.cons _ _ _ _ (.ptr _ _ _ rfl) (.cons _ _ _ _ (.ptr _ _ _ rfl) .nil)) .nil .nil)
     | cons y ys =>
      have hfl : (List.flatMap layR.g (y :: ys)).length = (ys.length + 1) * 5 := zAc layR.g 5 layR.len (y :: ys)
      have hyl : ys.length + 1 = i := hql
      refine aI (by kernel_rfl) ?_
      refine aI (by rw [hszR, hbyR]; simp only [bA, dT]; exact ⟨⟨⟨⟨⟨⟨rfl, rfl⟩, bL (by rw [hfl]; omega)⟩, rfl⟩, by omega⟩, by omega⟩, bL (by rw [hfl]; show (ys.length + 1) * 5 + 1 <= 0 + (ys.length + 1) * 5 + 5; omega)⟩) ?_
      have ec : List.take ((ys.length + 1) * 5) (List.flatMap layR.g (y :: ys)) ++ layR.g x = (y :: (ys ++ [x])).flatMap layR.g := by rw [aD (by rw [hfl]; omega), <- bC, List.flatMap_append]; simp
      refine ⟨(i + 1, y :: (ys ++ [x]), nx), ⟨hlt, by show (y :: (ys ++ [x])).length = _; simp; omega, hm2⟩, by show numAt B 10 2 - (i + 1) < numAt B 10 2 - i; omega, ?_⟩
      exact zAe [0, 1, 2, 3, 4, 5, 10] rfl rfl rfl (fun l e => by cases e) (by decide) (by decide) rfl rfl (zAt rfl) ⟨⟨_, rfl, zAh 8 rfl⟩, (sP rfl rfl), (sP rfl rfl), (sP rfl rfl), (sI rfl), (sP rfl rfl), ⟨_, rfl, .agg _ _ (.cons _ _ _ _ (.ptr _ _ _ rfl) (.cons _ _ _ _ (.ptr _ _ _ rfl) (.cons _ _ _ _ (.ptr _ _ _ rfl) .nil)))⟩, (sI rfl), (sI rfl), zAd rfl (by rw [wrapN (by omega) (by omega)]; omega), tv⟩ ⟨⟨by decide, _, rfl, by show RO _ _ (.cells [.int .i64 _, .int .i64 _, lsV 3 ([] : List QuX), lsV 4 (an0 :: ans), lsV 5 (ns0 :: nss), sq 10 (ys.length + 1 + 1) U] _) _; rw [zBj y ys x 10]; refine zBr (b1 := 3) (b2 := 4) (b3 := 5) (b4 := 10) (c1 := 3) (c2 := 4) (c3 := 5) (c4 := 6) ?_ ?_ ?_ ?_ _ _ ([] : List QuX) (an0 :: ans) (ns0 :: nss) (y :: (ys ++ [x])) <;> rfl⟩, bpo rfl, bpo rfl, tv⟩ ⟨(zAa layQ (by decide) rfl), (zAa layR (by decide) rfl), (zAa layR (by decide) rfl), (fun o ho => ⟨by decide, _, rfl, by cases ho; exact zBm (by rw [<- ec]; rfl) (zAf layR.g layR.plain _)⟩), tv⟩ (.fn _ _ _ _ _ _ _ (.cons _ _ _ _ (.ptr _ _ _ rfl) (.cons _ _ _ _ (.ptr _ _ _ rfl) .nil)) .nil .nil)
  | cons q0 qs =>
   cases an with
   | nil =>
    cases ns with
    | nil =>
     cases ar with
     | nil =>
      refine aI (by kernel_rfl) ?_
      refine ⟨(i + 1, [x], nx), ⟨hlt, by rw [<- hql]; rfl, hm2⟩, by show numAt B 10 2 - (i + 1) < numAt B 10 2 - i; omega, ?_⟩
      exact zAe [0, 1, 2, 3, 4, 5, 10] rfl rfl rfl (fun l e => by cases e) (by decide) (by decide) rfl rfl (zAt rfl) ⟨⟨_, rfl, zAh 8 rfl⟩, (sP rfl rfl), (sP rfl rfl), (sP rfl rfl), (sI rfl), (sP rfl rfl), ⟨_, rfl, .agg _ _ (.cons _ _ _ _ (.ptr _ _ _ rfl) (.cons _ _ _ _ (.ptr _ _ _ rfl) (.cons _ _ _ _ (.ptr _ _ _ rfl) .nil)))⟩, (sI rfl), (sI rfl), zAd rfl (by rw [wrapN (by omega) (by omega)]; omega), tv⟩ ⟨⟨by decide, _, rfl, by show RO _ _ (.cells [.int .i64 _, .int .i64 _, lsV 3 (q0 :: qs), lsV 4 ([] : List RcX), lsV 5 ([] : List RcX), lsV 10 [x]] _) _; refine zBr (b1 := 3) (b2 := 4) (b3 := 5) (b4 := 10) (c1 := 3) (c2 := 4) (c3 := 5) (c4 := 6) ?_ ?_ ?_ ?_ _ _ (q0 :: qs) ([] : List RcX) ([] : List RcX) [x] <;> rfl⟩, bpo rfl, bpo rfl, tv⟩ ⟨(zAa layQ (by decide) rfl), (zAa layR (by decide) rfl), (zAa layR (by decide) rfl), (fun o ho => ⟨by decide, _, rfl, by cases ho; exact zBm rfl rfl⟩), tv⟩ (.fn _ _ _ _ _ _ _ (.cons _ _ _ _ (.ptr _ _ _ rfl) (.cons _ _ _ _ (.ptr _ _ _ rfl) .nil)) .nil .nil)
     | cons y ys =>
      have hfl : (List.flatMap layR.g (y :: ys)).length = (ys.length + 1) * 5 := zAc layR.g 5 layR.len (y :: ys)
      have hyl : ys.length + 1 = i := hql
      refine aI (by kernel_rfl) ?_
      refine aI (by rw [hszR, hbyR]; simp only [bA, dT]; exact ⟨⟨⟨⟨⟨⟨rfl, rfl⟩, bL (by rw [hfl]; omega)⟩, rfl⟩, by omega⟩, by omega⟩, bL (by rw [hfl]; show (ys.length + 1) * 5 + 1 <= 0 + (ys.length + 1) * 5 + 5; omega)⟩) ?_
      have ec : List.take ((ys.length + 1) * 5) (List.flatMap layR.g (y :: ys)) ++ layR.g x = (y :: (ys ++ [x])).flatMap layR.g := by rw [aD (by rw [hfl]; omega), <- bC, List.flatMap_append]; simp
      refine ⟨(i + 1, y :: (ys ++ [x]), nx), ⟨hlt, by show (y :: (ys ++ [x])).length = _; simp; omega, hm2⟩, by show numAt B 10 2 - (i + 1) < numAt B 10 2 - i; omega, ?_⟩
      exact zAe [0, 1, 2, 3, 4, 5, 10] rfl rfl rfl (fun l e => by cases e) (by decide) (by decide) rfl rfl (zAt rfl) ⟨⟨_, rfl, zAh 8 rfl⟩, (sP rfl rfl), (sP rfl rfl), (sP rfl rfl), (sI rfl), (sP rfl rfl), ⟨_, rfl, .agg _ _ (.cons _ _ _ _ (.ptr _ _ _ rfl) (.cons _ _ _ _ (.ptr _ _ _ rfl) (.cons _ _ _ _ (.ptr _ _ _ rfl) .nil)))⟩, (sI rfl), (sI rfl), zAd rfl (by rw [wrapN (by omega) (by omega)]; omega), tv⟩ ⟨⟨by decide, _, rfl, by show RO _ _ (.cells [.int .i64 _, .int .i64 _, lsV 3 (q0 :: qs), lsV 4 ([] : List RcX), lsV 5 ([] : List RcX), sq 10 (ys.length + 1 + 1) U] _) _; rw [zBj y ys x 10]; refine zBr (b1 := 3) (b2 := 4) (b3 := 5) (b4 := 10) (c1 := 3) (c2 := 4) (c3 := 5) (c4 := 6) ?_ ?_ ?_ ?_ _ _ (q0 :: qs) ([] : List RcX) ([] : List RcX) (y :: (ys ++ [x])) <;> rfl⟩, bpo rfl, bpo rfl, tv⟩ ⟨(zAa layQ (by decide) rfl), (zAa layR (by decide) rfl), (zAa layR (by decide) rfl), (fun o ho => ⟨by decide, _, rfl, by cases ho; exact zBm (by rw [<- ec]; rfl) (zAf layR.g layR.plain _)⟩), tv⟩ (.fn _ _ _ _ _ _ _ (.cons _ _ _ _ (.ptr _ _ _ rfl) (.cons _ _ _ _ (.ptr _ _ _ rfl) .nil)) .nil .nil)
    | cons ns0 nss =>
     cases ar with
     | nil =>
      refine aI (by kernel_rfl) ?_
      refine ⟨(i + 1, [x], nx), ⟨hlt, by rw [<- hql]; rfl, hm2⟩, by show numAt B 10 2 - (i + 1) < numAt B 10 2 - i; omega, ?_⟩
      exact zAe [0, 1, 2, 3, 4, 5, 10] rfl rfl rfl (fun l e => by cases e) (by decide) (by decide) rfl rfl (zAt rfl) ⟨⟨_, rfl, zAh 8 rfl⟩, (sP rfl rfl), (sP rfl rfl), (sP rfl rfl), (sI rfl), (sP rfl rfl), ⟨_, rfl, .agg _ _ (.cons _ _ _ _ (.ptr _ _ _ rfl) (.cons _ _ _ _ (.ptr _ _ _ rfl) (.cons _ _ _ _ (.ptr _ _ _ rfl) .nil)))⟩, (sI rfl), (sI rfl), zAd rfl (by rw [wrapN (by omega) (by omega)]; omega), tv⟩ ⟨⟨by decide, _, rfl, by show RO _ _ (.cells [.int .i64 _, .int .i64 _, lsV 3 (q0 :: qs), lsV 4 ([] : List RcX), lsV 5 (ns0 :: nss), lsV 10 [x]] _) _; refine zBr (b1 := 3) (b2 := 4) (b3 := 5) (b4 := 10) (c1 := 3) (c2 := 4) (c3 := 5) (c4 := 6) ?_ ?_ ?_ ?_ _ _ (q0 :: qs) ([] : List RcX) (ns0 :: nss) [x] <;> rfl⟩, bpo rfl, bpo rfl, tv⟩ ⟨(zAa layQ (by decide) rfl), (zAa layR (by decide) rfl), (zAa layR (by decide) rfl), (fun o ho => ⟨by decide, _, rfl, by cases ho; exact zBm rfl rfl⟩), tv⟩ (.fn _ _ _ _ _ _ _ (.cons _ _ _ _ (.ptr _ _ _ rfl) (.cons _ _ _ _ (.ptr _ _ _ rfl) .nil)) .nil .nil)
     | cons y ys =>
      have hfl : (List.flatMap layR.g (y :: ys)).length = (ys.length + 1) * 5 := zAc layR.g 5 layR.len (y :: ys)
      have hyl : ys.length + 1 = i := hql
      refine aI (by kernel_rfl) ?_
      refine aI (by rw [hszR, hbyR]; simp only [bA, dT]; exact ⟨⟨⟨⟨⟨⟨rfl, rfl⟩, bL (by rw [hfl]; omega)⟩, rfl⟩, by omega⟩, by omega⟩, bL (by rw [hfl]; show (ys.length + 1) * 5 + 1 <= 0 + (ys.length + 1) * 5 + 5; omega)⟩) ?_
      have ec : List.take ((ys.length + 1) * 5) (List.flatMap layR.g (y :: ys)) ++ layR.g x = (y :: (ys ++ [x])).flatMap layR.g := by rw [aD (by rw [hfl]; omega), <- bC, List.flatMap_append]; simp
      refine ⟨(i + 1, y :: (ys ++ [x]), nx), ⟨hlt, by show (y :: (ys ++ [x])).length = _; simp; omega, hm2⟩, by show numAt B 10 2 - (i + 1) < numAt B 10 2 - i; omega, ?_⟩
      exact zAe [0, 1, 2, 3, 4, 5, 10] rfl rfl rfl (fun l e => by cases e) (by decide) (by decide) rfl rfl (zAt rfl) ⟨⟨_, rfl, zAh 8 rfl⟩, (sP rfl rfl), (sP rfl rfl), (sP rfl rfl), (sI rfl), (sP rfl rfl), ⟨_, rfl, .agg _ _ (.cons _ _ _ _ (.ptr _ _ _ rfl) (.cons _ _ _ _ (.ptr _ _ _ rfl) (.cons _ _ _ _ (.ptr _ _ _ rfl) .nil)))⟩, (sI rfl), (sI rfl), zAd rfl (by rw [wrapN (by omega) (by omega)]; omega), tv⟩ ⟨⟨by decide, _, rfl, by show RO _ _ (.cells [.int .i64 _, .int .i64 _, lsV 3 (q0 :: qs), lsV 4 ([] : List RcX), lsV 5 (ns0 :: nss), sq 10 (ys.length + 1 + 1) U] _) _; rw [zBj y ys x 10]; refine zBr (b1 := 3) (b2 := 4) (b3 := 5) (b4 := 10) (c1 := 3) (c2 := 4) (c3 := 5) (c4 := 6) ?_ ?_ ?_ ?_ _ _ (q0 :: qs) ([] : List RcX) (ns0 :: nss) (y :: (ys ++ [x])) <;> rfl⟩, bpo rfl, bpo rfl, tv⟩ ⟨(zAa layQ (by decide) rfl), (zAa layR (by decide) rfl), (zAa layR (by decide) rfl), (fun o ho => ⟨by decide, _, rfl, by cases ho; exact zBm (by rw [<- ec]; rfl) (zAf layR.g layR.plain _)⟩), tv⟩ (.fn _ _ _ _ _ _ _ (.cons _ _ _ _ (.ptr _ _ _ rfl) (.cons _ _ _ _ (.ptr _ _ _ rfl) .nil)) .nil .nil)
   | cons an0 ans =>
    cases ns with
    | nil =>
     cases ar with
     | nil =>
      refine aI (by kernel_rfl) ?_
      refine ⟨(i + 1, [x], nx), ⟨hlt, by rw [<- hql]; rfl, hm2⟩, by show numAt B 10 2 - (i + 1) < numAt B 10 2 - i; omega, ?_⟩
      exact zAe [0, 1, 2, 3, 4, 5, 10] rfl rfl rfl (fun l e => by cases e) (by decide) (by decide) rfl rfl (zAt rfl) ⟨⟨_, rfl, zAh 8 rfl⟩, (sP rfl rfl), (sP rfl rfl), (sP rfl rfl), (sI rfl), (sP rfl rfl), ⟨_, rfl, .agg _ _ (.cons _ _ _ _ (.ptr _ _ _ rfl) (.cons _ _ _ _ (.ptr _ _ _ rfl) (.cons _ _ _ _ (.ptr _ _ _ rfl) .nil)))⟩, (sI rfl), (sI rfl), zAd rfl (by rw [wrapN (by omega) (by omega)]; omega), tv⟩ ⟨⟨by decide, _, rfl, by show RO _ _ (.cells [.int .i64 _, .int .i64 _, lsV 3 (q0 :: qs), lsV 4 (an0 :: ans), lsV 5 ([] : List RcX), lsV 10 [x]] _) _; refine zBr (b1 := 3) (b2 := 4) (b3 := 5) (b4 := 10) (c1 := 3) (c2 := 4) (c3 := 5) (c4 := 6) ?_ ?_ ?_ ?_ _ _ (q0 :: qs) (an0 :: ans) ([] : List RcX) [x] <;> rfl⟩, bpo rfl, bpo rfl, tv⟩ ⟨(zAa layQ (by decide) rfl), (zAa layR (by decide) rfl), (zAa layR (by decide) rfl), (fun o ho => ⟨by decide, _, rfl, by cases ho; exact zBm rfl rfl⟩), tv⟩ (.fn _ _ _ _ _ _ _ (.cons _ _ _ _ (.ptr _ _ _ rfl) (.cons _ _ _ _ (.ptr _ _ _ rfl) .nil)) .nil .nil)
     | cons y ys =>
      have hfl : (List.flatMap layR.g (y :: ys)).length = (ys.length + 1) * 5 := zAc layR.g 5 layR.len (y :: ys)
      have hyl : ys.length + 1 = i := hql
      refine aI (by kernel_rfl) ?_
      refine aI (by rw [hszR, hbyR]; simp only [bA, dT]; exact ⟨⟨⟨⟨⟨⟨rfl, rfl⟩, bL (by rw [hfl]; omega)⟩, rfl⟩, by omega⟩, by omega⟩, bL (by rw [hfl]; show (ys.length + 1) * 5 + 1 <= 0 + (ys.length + 1) * 5 + 5; omega)⟩) ?_
      have ec : List.take ((ys.length + 1) * 5) (List.flatMap layR.g (y :: ys)) ++ layR.g x = (y :: (ys ++ [x])).flatMap layR.g := by rw [aD (by rw [hfl]; omega), <- bC, List.flatMap_append]; simp
      refine ⟨(i + 1, y :: (ys ++ [x]), nx), ⟨hlt, by show (y :: (ys ++ [x])).length = _; simp; omega, hm2⟩, by show numAt B 10 2 - (i + 1) < numAt B 10 2 - i; omega, ?_⟩
      exact zAe [0, 1, 2, 3, 4, 5, 10] rfl rfl rfl (fun l e => by cases e) (by decide) (by decide) rfl rfl (zAt rfl) ⟨⟨_, rfl, zAh 8 rfl⟩, (sP rfl rfl), (sP rfl rfl), (sP rfl rfl), (sI rfl), (sP rfl rfl), ⟨_, rfl, .agg _ _ (.cons _ _ _ _ (.ptr _ _ _ rfl) (.cons _ _ _ _ (.ptr _ _ _ rfl) (.cons _ _ _ _ (.ptr _ _ _ rfl) .nil)))⟩, (sI rfl), (sI rfl), zAd rfl (by rw [wrapN (by omega) (by omega)]; omega), tv⟩ ⟨⟨by decide, _, rfl, by show RO _ _ (.cells [.int .i64 _, .int .i64 _, lsV 3 (q0 :: qs), lsV 4 (an0 :: ans), lsV 5 ([] : List RcX), sq 10 (ys.length + 1 + 1) U] _) _; rw [zBj y ys x 10]; refine zBr (b1 := 3) (b2 := 4) (b3 := 5) (b4 := 10) (c1 := 3) (c2 := 4) (c3 := 5) (c4 := 6) ?_ ?_ ?_ ?_ _ _ (q0 :: qs) (an0 :: ans) ([] : List RcX) (y :: (ys ++ [x])) <;> rfl⟩, bpo rfl, bpo rfl, tv⟩ ⟨(zAa layQ (by decide) rfl), (zAa layR (by decide) rfl), (zAa layR (by decide) rfl), (fun o ho => ⟨by decide, _, rfl, by cases ho; exact zBm (by rw [<- ec]; rfl) (zAf layR.g layR.plain _)⟩), tv⟩ (.fn _ _ _ _ _ _ _ (.cons _ _ _ _ (.ptr _ _ _ rfl) (.cons _ _ _ _ (.ptr _ _ _ rfl) .nil)) .nil .nil)
    | cons ns0 nss =>
     cases ar with
     | nil =>
      refine aI (by kernel_rfl) ?_
      refine ⟨(i + 1, [x], nx), ⟨hlt, by rw [<- hql]; rfl, hm2⟩, by show numAt B 10 2 - (i + 1) < numAt B 10 2 - i; omega, ?_⟩
      exact zAe [0, 1, 2, 3, 4, 5, 10] rfl rfl rfl (fun l e => by cases e) (by decide) (by decide) rfl rfl (zAt rfl) ⟨⟨_, rfl, zAh 8 rfl⟩, (sP rfl rfl), (sP rfl rfl), (sP rfl rfl), (sI rfl), (sP rfl rfl), ⟨_, rfl, .agg _ _ (.cons _ _ _ _ (.ptr _ _ _ rfl) (.cons _ _ _ _ (.ptr _ _ _ rfl) (.cons _ _ _ _ (.ptr _ _ _ rfl) .nil)))⟩, (sI rfl), (sI rfl), zAd rfl (by rw [wrapN (by omega) (by omega)]; omega), tv⟩ ⟨⟨by decide, _, rfl, by show RO _ _ (.cells [.int .i64 _, .int .i64 _, lsV 3 (q0 :: qs), lsV 4 (an0 :: ans), lsV 5 (ns0 :: nss), lsV 10 [x]] _) _; refine zBr (b1 := 3) (b2 := 4) (b3 := 5) (b4 := 10) (c1 := 3) (c2 := 4) (c3 := 5) (c4 := 6) ?_ ?_ ?_ ?_ _ _ (q0 :: qs) (an0 :: ans) (ns0 :: nss) [x] <;> rfl⟩, bpo rfl, bpo rfl, tv⟩ ⟨(zAa layQ (by decide) rfl), (zAa layR (by decide) rfl), (zAa layR (by decide) rfl), (fun o ho => ⟨by decide, _, rfl, by cases ho; exact zBm rfl rfl⟩), tv⟩ (.fn _ _ _ _ _ _ _ (.cons _ _ _ _ (.ptr _ _ _ rfl) (.cons _ _ _ _ (.ptr _ _ _ rfl) .nil)) .nil .nil)
     | cons y ys =>
      have hfl : (List.flatMap layR.g (y :: ys)).length = (ys.length + 1) * 5 := zAc layR.g 5 layR.len (y :: ys)
      have hyl : ys.length + 1 = i := hql
      refine aI (by kernel_rfl) ?_
      refine aI (by rw [hszR, hbyR]; simp only [bA, dT]; exact ⟨⟨⟨⟨⟨⟨rfl, rfl⟩, bL (by rw [hfl]; omega)⟩, rfl⟩, by omega⟩, by omega⟩, bL (by rw [hfl]; show (ys.length + 1) * 5 + 1 <= 0 + (ys.length + 1) * 5 + 5; omega)⟩) ?_
      have ec : List.take ((ys.length + 1) * 5) (List.flatMap layR.g (y :: ys)) ++ layR.g x = (y :: (ys ++ [x])).flatMap layR.g := by rw [aD (by rw [hfl]; omega), <- bC, List.flatMap_append]; simp
      refine ⟨(i + 1, y :: (ys ++ [x]), nx), ⟨hlt, by show (y :: (ys ++ [x])).length = _; simp; omega, hm2⟩, by show numAt B 10 2 - (i + 1) < numAt B 10 2 - i; omega, ?_⟩
      exact zAe [0, 1, 2, 3, 4, 5, 10] rfl rfl rfl (fun l e => by cases e) (by decide) (by decide) rfl rfl (zAt rfl) ⟨⟨_, rfl, zAh 8 rfl⟩, (sP rfl rfl), (sP rfl rfl), (sP rfl rfl), (sI rfl), (sP rfl rfl), ⟨_, rfl, .agg _ _ (.cons _ _ _ _ (.ptr _ _ _ rfl) (.cons _ _ _ _ (.ptr _ _ _ rfl) (.cons _ _ _ _ (.ptr _ _ _ rfl) .nil)))⟩, (sI rfl), (sI rfl), zAd rfl (by rw [wrapN (by omega) (by omega)]; omega), tv⟩ ⟨⟨by decide, _, rfl, by show RO _ _ (.cells [.int .i64 _, .int .i64 _, lsV 3 (q0 :: qs), lsV 4 (an0 :: ans), lsV 5 (ns0 :: nss), sq 10 (ys.length + 1 + 1) U] _) _; rw [zBj y ys x 10]; refine zBr (b1 := 3) (b2 := 4) (b3 := 5) (b4 := 10) (c1 := 3) (c2 := 4) (c3 := 5) (c4 := 6) ?_ ?_ ?_ ?_ _ _ (q0 :: qs) (an0 :: ans) (ns0 :: nss) (y :: (ys ++ [x])) <;> rfl⟩, bpo rfl, bpo rfl, tv⟩ ⟨(zAa layQ (by decide) rfl), (zAa layR (by decide) rfl), (zAa layR (by decide) rfl), (fun o ho => ⟨by decide, _, rfl, by cases ho; exact zBm (by rw [<- ec]; rfl) (zAf layR.g layR.plain _)⟩), tv⟩ (.fn _ _ _ _ _ _ _ (.cons _ _ _ _ (.ptr _ _ _ rfl) (.cons _ _ _ _ (.ptr _ _ _ rfl) .nil)) .nil .nil)
 have hiq : i = numAt B 10 2 := by have h1 : ¬ ((i : Nat) : Int) < ((numAt B 10 2 : Nat) : Int) := oF h1; omega
 subst hiq
 have hlar : ar.length = numAt B 10 2 := hql
 refine aI rfl (zAk (zAe [0, 1, 2, 3, 4, 5, 6] rfl rfl rfl (fun l e => by cases e) (by decide) (by decide) rfl rfl (zAt rfl) (d := 7) (d2 := 3) (lv := [(0, trB B), (2, pt 0), (3, pt 1), (4, pt 2), (5, .int .i64 at'), (73, .agg #[.pointer (some ⟨0, 3, none⟩), .pointer (some ⟨0, 4, none⟩), .pointer (some ⟨0, 5, none⟩)]), (74, .int .i64 2)]) (bs := [(0, .cells [.int .i64 (numAt B 0 2 : Nat), .int .i64 (numAt B 2 2 : Nat), lsV 3 q, lsV 4 an, lsV 5 ns, lsV 6 ar] 25), (1, .cells [.int .i64 0, .int .i64 0] 48), (2, .cells [.int .i64 (numAt B 0 2 : Nat), .int .i64 (numAt B 2 2 : Nat), .int .i64 (numAt B 4 2 : Nat), .int .i64 (numAt B 6 2 : Nat), .int .i64 (numAt B 8 2 : Nat), .int .i64 (numAt B 10 2 : Nat)] 85)]) (bo := [(3, lsO layQ q), (4, lsO layR an), (5, lsO layR ns), (6, lsO layR ar)]) (W := []) (m := 7) (df := [.call 60 [pt 1, pt 0] []]) ⟨⟨_, rfl, zAh 8 rfl⟩, (sP rfl rfl), (sP rfl rfl), (sP rfl rfl), (sI rfl), ⟨_, rfl, .agg _ _ (.cons _ _ _ _ (.ptr _ _ _ rfl) (.cons _ _ _ _ (.ptr _ _ _ rfl) (.cons _ _ _ _ (.ptr _ _ _ rfl) .nil)))⟩, (sI rfl), tv⟩ ⟨⟨by decide, _, rfl, by refine zBr (b1 := 3) (b2 := 4) (b3 := 5) (b4 := 6) (c1 := 3) (c2 := 4) (c3 := 5) (c4 := 6) ?_ ?_ ?_ ?_ _ _ q an ns ar <;> rfl⟩, bpo rfl, bpo rfl, tv⟩ ⟨(zAa layQ (by decide) rfl), (zAa layR (by decide) rfl), (zAa layR (by decide) rfl), (zAa layR (by decide) rfl), tv⟩ (.fn _ _ _ _ _ _ _ (.cons _ _ _ _ (.ptr _ _ _ rfl) (.cons _ _ _ _ (.ptr _ _ _ rfl) .nil)) .nil .nil)) (fun f => ?_))
 refine LW.round ?_
 refine zAs tbRm2 [] 0 _ none mixed _ _ _ ?_
 have hfin : mrQ B (numAt B 4 2) (MsT.mk (numAt B 0 2 : Nat) (numAt B 2 2 : Nat) q an ns ar).items at' := by
  have e : (MsT.mk (numAt B 0 2 : Nat) (numAt B 2 2 : Nat) q an ns ar).items = (((q.map (Sum.inl (β := RcX)) ++ an.map (Sum.inr (α := QuX))) ++ ns.map (Sum.inr (α := QuX))) ++ ar.map (Sum.inr (α := QuX))) := by unfold MsT.items; simp
  rw [e]; exact hm
 have hfit : MsFit B (MsT.mk (numAt B 0 2 : Nat) (numAt B 2 2 : Nat) q an ns ar) := ⟨rfl, rfl, hlq, hlan, hlns, hlar⟩
 refine ifK (fun h3 => ?_) (fun h3 => ?_)
 ·have h3 : at' ≠ ((B.length : Nat) : Int) := by have h3 : (at' != ((B.length : Nat) : Int)) = true := h3; simpa using h3
  have hres : msQ B zM 4 at' := .rest ⟨g2, g1⟩ hfin hfit.tot h3
  cases q with
  | nil =>
   cases an with
   | nil =>
    cases ns with
    | nil =>
     cases ar with
     | nil =>
      refine aI rfl (zAi (q := ([] : List QuX)) (an := ([] : List RcX)) (ns := ([] : List RcX)) (ar := ([] : List RcX)) rfl rfl rfl rfl rfl rfl rfl rfl rfl rfl rfl (fun f => ?_))
      refine Eq.mpr (zBb 4 (by decide) _ _ _ _ _ _ at' _ f) ?_
      exact zAg hres (by decide)
     | cons ar0 ars =>
      refine aI rfl (zAi (q := ([] : List QuX)) (an := ([] : List RcX)) (ns := ([] : List RcX)) (ar := (ar0 :: ars)) rfl rfl rfl rfl rfl rfl rfl rfl rfl rfl rfl (fun f => ?_))
      refine Eq.mpr (zBb 4 (by decide) _ _ _ _ _ _ at' _ f) ?_
      exact zAg hres (by decide)
    | cons ns0 nss =>
     cases ar with
     | nil =>
      refine aI rfl (zAi (q := ([] : List QuX)) (an := ([] : List RcX)) (ns := (ns0 :: nss)) (ar := ([] : List RcX)) rfl rfl rfl rfl rfl rfl rfl rfl rfl rfl rfl (fun f => ?_))
      refine Eq.mpr (zBb 4 (by decide) _ _ _ _ _ _ at' _ f) ?_
      exact zAg hres (by decide)
     | cons ar0 ars =>
      refine aI rfl (zAi (q := ([] : List QuX)) (an := ([] : List RcX)) (ns := (ns0 :: nss)) (ar := (ar0 :: ars)) rfl rfl rfl rfl rfl rfl rfl rfl rfl rfl rfl (fun f => ?_))
      refine Eq.mpr (zBb 4 (by decide) _ _ _ _ _ _ at' _ f) ?_
      exact zAg hres (by decide)
   | cons an0 ans =>
    cases ns with
    | nil =>
     cases ar with
     | nil =>
      refine aI rfl (zAi (q := ([] : List QuX)) (an := (an0 :: ans)) (ns := ([] : List RcX)) (ar := ([] : List RcX)) rfl rfl rfl rfl rfl rfl rfl rfl rfl rfl rfl (fun f => ?_))
      refine Eq.mpr (zBb 4 (by decide) _ _ _ _ _ _ at' _ f) ?_
      exact zAg hres (by decide)
     | cons ar0 ars =>
      refine aI rfl (zAi (q := ([] : List QuX)) (an := (an0 :: ans)) (ns := ([] : List RcX)) (ar := (ar0 :: ars)) rfl rfl rfl rfl rfl rfl rfl rfl rfl rfl rfl (fun f => ?_))
      refine Eq.mpr (zBb 4 (by decide) _ _ _ _ _ _ at' _ f) ?_
      exact zAg hres (by decide)
    | cons ns0 nss =>
     cases ar with
     | nil =>
      refine aI rfl (zAi (q := ([] : List QuX)) (an := (an0 :: ans)) (ns := (ns0 :: nss)) (ar := ([] : List RcX)) rfl rfl rfl rfl rfl rfl rfl rfl rfl rfl rfl (fun f => ?_))
      refine Eq.mpr (zBb 4 (by decide) _ _ _ _ _ _ at' _ f) ?_
      exact zAg hres (by decide)
     | cons ar0 ars =>
      refine aI rfl (zAi (q := ([] : List QuX)) (an := (an0 :: ans)) (ns := (ns0 :: nss)) (ar := (ar0 :: ars)) rfl rfl rfl rfl rfl rfl rfl rfl rfl rfl rfl (fun f => ?_))
      refine Eq.mpr (zBb 4 (by decide) _ _ _ _ _ _ at' _ f) ?_
      exact zAg hres (by decide)
  | cons q0 qs =>
   cases an with
   | nil =>
    cases ns with
    | nil =>
     cases ar with
     | nil =>
      refine aI rfl (zAi (q := (q0 :: qs)) (an := ([] : List RcX)) (ns := ([] : List RcX)) (ar := ([] : List RcX)) rfl rfl rfl rfl rfl rfl rfl rfl rfl rfl rfl (fun f => ?_))
      refine Eq.mpr (zBb 4 (by decide) _ _ _ _ _ _ at' _ f) ?_
      exact zAg hres (by decide)
     | cons ar0 ars =>
      refine aI rfl (zAi (q := (q0 :: qs)) (an := ([] : List RcX)) (ns := ([] : List RcX)) (ar := (ar0 :: ars)) rfl rfl rfl rfl rfl rfl rfl rfl rfl rfl rfl (fun f => ?_))
      refine Eq.mpr (zBb 4 (by decide) _ _ _ _ _ _ at' _ f) ?_
      exact zAg hres (by decide)
    | cons ns0 nss =>
     cases ar with
     | nil =>
      refine aI rfl (zAi (q := (q0 :: qs)) (an := ([] : List RcX)) (ns := (ns0 :: nss)) (ar := ([] : List RcX)) rfl rfl rfl rfl rfl rfl rfl rfl rfl rfl rfl (fun f => ?_))
      refine Eq.mpr (zBb 4 (by decide) _ _ _ _ _ _ at' _ f) ?_
      exact zAg hres (by decide)
     | cons ar0 ars =>
      refine aI rfl (zAi (q := (q0 :: qs)) (an := ([] : List RcX)) (ns := (ns0 :: nss)) (ar := (ar0 :: ars)) rfl rfl rfl rfl rfl rfl rfl rfl rfl rfl rfl (fun f => ?_))
      refine Eq.mpr (zBb 4 (by decide) _ _ _ _ _ _ at' _ f) ?_
      exact zAg hres (by decide)
   | cons an0 ans =>
    cases ns with
    | nil =>
     cases ar with
     | nil =>
      refine aI rfl (zAi (q := (q0 :: qs)) (an := (an0 :: ans)) (ns := ([] : List RcX)) (ar := ([] : List RcX)) rfl rfl rfl rfl rfl rfl rfl rfl rfl rfl rfl (fun f => ?_))
      refine Eq.mpr (zBb 4 (by decide) _ _ _ _ _ _ at' _ f) ?_
      exact zAg hres (by decide)
     | cons ar0 ars =>
      refine aI rfl (zAi (q := (q0 :: qs)) (an := (an0 :: ans)) (ns := ([] : List RcX)) (ar := (ar0 :: ars)) rfl rfl rfl rfl rfl rfl rfl rfl rfl rfl rfl (fun f => ?_))
      refine Eq.mpr (zBb 4 (by decide) _ _ _ _ _ _ at' _ f) ?_
      exact zAg hres (by decide)
    | cons ns0 nss =>
     cases ar with
     | nil =>
      refine aI rfl (zAi (q := (q0 :: qs)) (an := (an0 :: ans)) (ns := (ns0 :: nss)) (ar := ([] : List RcX)) rfl rfl rfl rfl rfl rfl rfl rfl rfl rfl rfl (fun f => ?_))
      refine Eq.mpr (zBb 4 (by decide) _ _ _ _ _ _ at' _ f) ?_
      exact zAg hres (by decide)
     | cons ar0 ars =>
      refine aI rfl (zAi (q := (q0 :: qs)) (an := (an0 :: ans)) (ns := (ns0 :: nss)) (ar := (ar0 :: ars)) rfl rfl rfl rfl rfl rfl rfl rfl rfl rfl rfl (fun f => ?_))
      refine Eq.mpr (zBb 4 (by decide) _ _ _ _ _ _ at' _ f) ?_
      exact zAg hres (by decide)
 have h3 : at' = ((B.length : Nat) : Int) := by have h3 : (at' != ((B.length : Nat) : Int)) = false := h3; simpa using h3
 subst h3
 have hres : msQ B (MsT.mk (numAt B 0 2 : Nat) (numAt B 2 2 : Nat) q an ns ar) 0 0 := .fine ⟨g2, g1⟩ hfin hfit
 cases q with
 | nil =>
  cases an with
  | nil =>
   cases ns with
   | nil =>
    cases ar with
    | nil =>
     refine aI rfl (zAi (q := ([] : List QuX)) (an := ([] : List RcX)) (ns := ([] : List RcX)) (ar := ([] : List RcX)) rfl rfl rfl rfl rfl rfl rfl rfl rfl rfl rfl (fun f => ?_))
     refine Eq.mpr (zFs _ _ _ _ _ _ _ f) ?_
     exact ⟨_, 0, 0, _, _, _, hres, rfl, fun _ => zFu _ _ _ _ _ _ f, fun _ => zFv _ _ _ _ _ _ f, fun _ => zFw _ _ _ _ _ _ f, fun _ => zFx _ _ _ _ _ _ f, fun _ => zFt _ _ _ _ _ _ f⟩
    | cons ar0 ars =>
     refine aI rfl (zAi (q := ([] : List QuX)) (an := ([] : List RcX)) (ns := ([] : List RcX)) (ar := (ar0 :: ars)) rfl rfl rfl rfl rfl rfl rfl rfl rfl rfl rfl (fun f => ?_))
     refine Eq.mpr (zFs _ _ _ _ _ _ _ f) ?_
     exact ⟨_, 0, 0, _, _, _, hres, rfl, fun _ => zFu _ _ _ _ _ _ f, fun _ => zFv _ _ _ _ _ _ f, fun _ => zFw _ _ _ _ _ _ f, fun _ => zFx _ _ _ _ _ _ f, fun _ => zFt _ _ _ _ _ _ f⟩
   | cons ns0 nss =>
    cases ar with
    | nil =>
     refine aI rfl (zAi (q := ([] : List QuX)) (an := ([] : List RcX)) (ns := (ns0 :: nss)) (ar := ([] : List RcX)) rfl rfl rfl rfl rfl rfl rfl rfl rfl rfl rfl (fun f => ?_))
     refine Eq.mpr (zFs _ _ _ _ _ _ _ f) ?_
     exact ⟨_, 0, 0, _, _, _, hres, rfl, fun _ => zFu _ _ _ _ _ _ f, fun _ => zFv _ _ _ _ _ _ f, fun _ => zFw _ _ _ _ _ _ f, fun _ => zFx _ _ _ _ _ _ f, fun _ => zFt _ _ _ _ _ _ f⟩
    | cons ar0 ars =>
     refine aI rfl (zAi (q := ([] : List QuX)) (an := ([] : List RcX)) (ns := (ns0 :: nss)) (ar := (ar0 :: ars)) rfl rfl rfl rfl rfl rfl rfl rfl rfl rfl rfl (fun f => ?_))
     refine Eq.mpr (zFs _ _ _ _ _ _ _ f) ?_
     exact ⟨_, 0, 0, _, _, _, hres, rfl, fun _ => zFu _ _ _ _ _ _ f, fun _ => zFv _ _ _ _ _ _ f, fun _ => zFw _ _ _ _ _ _ f, fun _ => zFx _ _ _ _ _ _ f, fun _ => zFt _ _ _ _ _ _ f⟩
  | cons an0 ans =>
   cases ns with
   | nil =>
    cases ar with
    | nil =>
     refine aI rfl (zAi (q := ([] : List QuX)) (an := (an0 :: ans)) (ns := ([] : List RcX)) (ar := ([] : List RcX)) rfl rfl rfl rfl rfl rfl rfl rfl rfl rfl rfl (fun f => ?_))
     refine Eq.mpr (zFs _ _ _ _ _ _ _ f) ?_
     exact ⟨_, 0, 0, _, _, _, hres, rfl, fun _ => zFu _ _ _ _ _ _ f, fun _ => zFv _ _ _ _ _ _ f, fun _ => zFw _ _ _ _ _ _ f, fun _ => zFx _ _ _ _ _ _ f, fun _ => zFt _ _ _ _ _ _ f⟩
    | cons ar0 ars =>
     refine aI rfl (zAi (q := ([] : List QuX)) (an := (an0 :: ans)) (ns := ([] : List RcX)) (ar := (ar0 :: ars)) rfl rfl rfl rfl rfl rfl rfl rfl rfl rfl rfl (fun f => ?_))
     refine Eq.mpr (zFs _ _ _ _ _ _ _ f) ?_
     exact ⟨_, 0, 0, _, _, _, hres, rfl, fun _ => zFu _ _ _ _ _ _ f, fun _ => zFv _ _ _ _ _ _ f, fun _ => zFw _ _ _ _ _ _ f, fun _ => zFx _ _ _ _ _ _ f, fun _ => zFt _ _ _ _ _ _ f⟩
   | cons ns0 nss =>
    cases ar with
    | nil =>
     refine aI rfl (zAi (q := ([] : List QuX)) (an := (an0 :: ans)) (ns := (ns0 :: nss)) (ar := ([] : List RcX)) rfl rfl rfl rfl rfl rfl rfl rfl rfl rfl rfl (fun f => ?_))
     refine Eq.mpr (zFs _ _ _ _ _ _ _ f) ?_
     exact ⟨_, 0, 0, _, _, _, hres, rfl, fun _ => zFu _ _ _ _ _ _ f, fun _ => zFv _ _ _ _ _ _ f, fun _ => zFw _ _ _ _ _ _ f, fun _ => zFx _ _ _ _ _ _ f, fun _ => zFt _ _ _ _ _ _ f⟩
    | cons ar0 ars =>
     refine aI rfl (zAi (q := ([] : List QuX)) (an := (an0 :: ans)) (ns := (ns0 :: nss)) (ar := (ar0 :: ars)) rfl rfl rfl rfl rfl rfl rfl rfl rfl rfl rfl (fun f => ?_))
     refine Eq.mpr (zFs _ _ _ _ _ _ _ f) ?_
     exact ⟨_, 0, 0, _, _, _, hres, rfl, fun _ => zFu _ _ _ _ _ _ f, fun _ => zFv _ _ _ _ _ _ f, fun _ => zFw _ _ _ _ _ _ f, fun _ => zFx _ _ _ _ _ _ f, fun _ => zFt _ _ _ _ _ _ f⟩
 | cons q0 qs =>
  cases an with
  | nil =>
   cases ns with
   | nil =>
    cases ar with
    | nil =>
     refine aI rfl (zAi (q := (q0 :: qs)) (an := ([] : List RcX)) (ns := ([] : List RcX)) (ar := ([] : List RcX)) rfl rfl rfl rfl rfl rfl rfl rfl rfl rfl rfl (fun f => ?_))
     refine Eq.mpr (zFs _ _ _ _ _ _ _ f) ?_
     exact ⟨_, 0, 0, _, _, _, hres, rfl, fun _ => zFu _ _ _ _ _ _ f, fun _ => zFv _ _ _ _ _ _ f, fun _ => zFw _ _ _ _ _ _ f, fun _ => zFx _ _ _ _ _ _ f, fun _ => zFt _ _ _ _ _ _ f⟩
    | cons ar0 ars =>
     refine aI rfl (zAi (q := (q0 :: qs)) (an := ([] : List RcX)) (ns := ([] : List RcX)) (ar := (ar0 :: ars)) rfl rfl rfl rfl rfl rfl rfl rfl rfl rfl rfl (fun f => ?_))
     refine Eq.mpr (zFs _ _ _ _ _ _ _ f) ?_
     exact ⟨_, 0, 0, _, _, _, hres, rfl, fun _ => zFu _ _ _ _ _ _ f, fun _ => zFv _ _ _ _ _ _ f, fun _ => zFw _ _ _ _ _ _ f, fun _ => zFx _ _ _ _ _ _ f, fun _ => zFt _ _ _ _ _ _ f⟩
   | cons ns0 nss =>
    cases ar with
    | nil =>
     refine aI rfl (zAi (q := (q0 :: qs)) (an := ([] : List RcX)) (ns := (ns0 :: nss)) (ar := ([] : List RcX)) rfl rfl rfl rfl rfl rfl rfl rfl rfl rfl rfl (fun f => ?_))
     refine Eq.mpr (zFs _ _ _ _ _ _ _ f) ?_
     exact ⟨_, 0, 0, _, _, _, hres, rfl, fun _ => zFu _ _ _ _ _ _ f, fun _ => zFv _ _ _ _ _ _ f, fun _ => zFw _ _ _ _ _ _ f, fun _ => zFx _ _ _ _ _ _ f, fun _ => zFt _ _ _ _ _ _ f⟩
    | cons ar0 ars =>
     refine aI rfl (zAi (q := (q0 :: qs)) (an := ([] : List RcX)) (ns := (ns0 :: nss)) (ar := (ar0 :: ars)) rfl rfl rfl rfl rfl rfl rfl rfl rfl rfl rfl (fun f => ?_))
     refine Eq.mpr (zFs _ _ _ _ _ _ _ f) ?_
     exact ⟨_, 0, 0, _, _, _, hres, rfl, fun _ => zFu _ _ _ _ _ _ f, fun _ => zFv _ _ _ _ _ _ f, fun _ => zFw _ _ _ _ _ _ f, fun _ => zFx _ _ _ _ _ _ f, fun _ => zFt _ _ _ _ _ _ f⟩
  | cons an0 ans =>
   cases ns with
   | nil =>
    cases ar with
    | nil =>
     refine aI rfl (zAi (q := (q0 :: qs)) (an := (an0 :: ans)) (ns := ([] : List RcX)) (ar := ([] : List RcX)) rfl rfl rfl rfl rfl rfl rfl rfl rfl rfl rfl (fun f => ?_))
     refine Eq.mpr (zFs _ _ _ _ _ _ _ f) ?_
     exact ⟨_, 0, 0, _, _, _, hres, rfl, fun _ => zFu _ _ _ _ _ _ f, fun _ => zFv _ _ _ _ _ _ f, fun _ => zFw _ _ _ _ _ _ f, fun _ => zFx _ _ _ _ _ _ f, fun _ => zFt _ _ _ _ _ _ f⟩
    | cons ar0 ars =>
     refine aI rfl (zAi (q := (q0 :: qs)) (an := (an0 :: ans)) (ns := ([] : List RcX)) (ar := (ar0 :: ars)) rfl rfl rfl rfl rfl rfl rfl rfl rfl rfl rfl (fun f => ?_))
     refine Eq.mpr (zFs _ _ _ _ _ _ _ f) ?_
     exact ⟨_, 0, 0, _, _, _, hres, rfl, fun _ => zFu _ _ _ _ _ _ f, fun _ => zFv _ _ _ _ _ _ f, fun _ => zFw _ _ _ _ _ _ f, fun _ => zFx _ _ _ _ _ _ f, fun _ => zFt _ _ _ _ _ _ f⟩
   | cons ns0 nss =>
    cases ar with
    | nil =>
     refine aI rfl (zAi (q := (q0 :: qs)) (an := (an0 :: ans)) (ns := (ns0 :: nss)) (ar := ([] : List RcX)) rfl rfl rfl rfl rfl rfl rfl rfl rfl rfl rfl (fun f => ?_))
     refine Eq.mpr (zFs _ _ _ _ _ _ _ f) ?_
     exact ⟨_, 0, 0, _, _, _, hres, rfl, fun _ => zFu _ _ _ _ _ _ f, fun _ => zFv _ _ _ _ _ _ f, fun _ => zFw _ _ _ _ _ _ f, fun _ => zFx _ _ _ _ _ _ f, fun _ => zFt _ _ _ _ _ _ f⟩
    | cons ar0 ars =>
     refine aI rfl (zAi (q := (q0 :: qs)) (an := (an0 :: ans)) (ns := (ns0 :: nss)) (ar := (ar0 :: ars)) rfl rfl rfl rfl rfl rfl rfl rfl rfl rfl rfl (fun f => ?_))
     refine Eq.mpr (zFs _ _ _ _ _ _ _ f) ?_
     exact ⟨_, 0, 0, _, _, _, hres, rfl, fun _ => zFu _ _ _ _ _ _ f, fun _ => zFv _ _ _ _ _ _ f, fun _ => zFw _ _ _ _ _ _ f, fun _ => zFx _ _ _ _ _ _ f, fun _ => zFt _ _ _ _ _ _ f⟩
end
section
open Go Go.RowKit
theorem lsV_frz {dp : Prop} {α : Type} {L : Lay α} {H : Tr AObj} {b : Nat} {l : List α} (hz : (Try.prog.info? L.t).map (·.size) = some L.k) (hb : b < JJ) (h : l ≠ [] -> H.get b = lsO L l) : FrzP dp Try.prog 0 H (lsV b l) (treeV L.k l.length (l.flatMap L.g)) := by
 cases l with
 | nil => exact .one _ _ (.nil _)
 | cons x l => exact OwnR.frz (e0 := L.t) hz (.inr ⟨b, rfl, hb, aZ _ _, h (aZ _ _)⟩)
def msgV (m : MsT) (e p : Int) : Value := .tuple #[m.v, .agg #[.int .i64 e, .int .i64 p]]
end
section
open Go Go.RowKit
inductive rcC (B : Bl) (a : Int) : List RcX -> Int -> Prop
 | nil : rcC B a [] a
 | snoc {l : List RcX} {c : Int} {x : RcX} {nx p : Int} (h : rcC B a l c) (hr : recQ B c (rcT (x, nx, 0, p))) : rcC B a (l ++ [x]) nx
def rlQ (B : Bl) (a : Int) (n : Nat) (y : List RcX × Int × Int × Int) : Prop :=
 (y.2.2.1 = 0 /\ y.2.2.2 = 0 /\ rcC B a y.1 y.2.1 /\ y.1.length = n) \/ (y.1 = [] /\ y.2.1 = 0 /\ y.2.2.1 ≠ 0 /\ ∃ l c x nx, rcC B a l c /\ l.length < n /\ recQ B c (rcT (x, nx, y.2.2.1, y.2.2.2)))
theorem mrQ.recs {B : Bl} {nq : Nat} {l : List MwI} {a c : Int} {r : List RcX} (h : mrQ B nq l a) (hl : nq <= l.length) (k : rcC B a r c) : mrQ B nq (l ++ r.map .inr) c := by
 induction k with
 | nil => rw [List.map_nil, aF]; exact h
 | snoc k hr ih => rw [List.map_append, <- aN]; exact .r ih (by rw [aB]; omega) hr
noncomputable def tbMr1 : Tb Try.prog 0 := tbOf mixed [zOg]
def rliS (B : Bl) (n : Nat) (x : Nat × List RcX × Int) (f : Nat -> Option Value) : Fs := ⟨slots 6 [(0, trB B), (1, .int .i64 x.2.2), (2, .int .i64 (n : Nat)), (8, .pointer (some ⟨0, 0, none⟩)), (9, lsV 1 x.2.1), (10, .int .i64 (x.1 : Nat))] f, heapO 2 [(0, .cells [.int .i64 0, .int .i64 0] 48)] [(1, lsO layR x.2.1)], 2, [], []⟩
theorem rlist_fn (B : Bl) (hB : B.length <= 1000000) (hne : B ≠ []) (a : Int) (n : Nat) (hn : n < 65536) : ∃ r, FnS Try.prog 0 66 [trB B, .int .i64 a, .int .i64 (n : Nat)] .e 0 r /\ ∃ y b H k wr, rlQ B a n y /\ r = .ret (.tuple #[lsV b y.1, .int .i64 y.2.1, .agg #[.int .i64 y.2.2.1, .int .i64 y.2.2.2]]) H k wr /\ b < JJ /\ (y.1 ≠ [] -> H.get b = lsO layR y.1) := by
 have hszR : (Try.prog.types[69]).size = 5 := by kernel_rfl
 have hbyR : (Try.prog.types[69]).bytes = 56 := by kernel_rfl
 refine zAu mixed tbMr1 [] Try.func66 (c := bodyOf Try.f66) (by kernel_rfl) ?_
 refine zAv (rliS B n) (fun x => n - x.1) (fun x => x.1 <= n /\ x.2.1.length = x.1 /\ rcC B a x.2.1 x.2.2) (0, [], a) ⟨aH _, rfl, .nil⟩ ?_ ?_
 ·exact zAe [0, 40] rfl rfl rfl (fun l e => by cases e) (by decide) (by decide) rfl rfl (zAt rfl) ⟨⟨_, rfl, zAh 8 rfl⟩, (sI rfl), (sI rfl), (sP rfl rfl), ⟨_, rfl, zAh 8 rfl⟩, (sI rfl), tv⟩ ⟨bpo rfl, tv⟩ ⟨(fun o ho => by cases ho), tv⟩ .nil
 rintro ⟨i, l, at'⟩ f ⟨hi, hql, hm⟩
 have hi : i <= n := hi
 have hql : l.length = i := hql
 have hm : rcC B a l at' := hm
 refine zAs tbMr1 [] 0 _ none mixed _ _ _ ?_
 refine ifK (fun h1 => ?_) (fun h1 => ?_)
 ·have hlt : i < n := by have h1 : ((i : Nat) : Int) < ((n : Nat) : Int) := oT h1; omega
  refine eI (B, at') (aI ⟨rfl, hne, by show B.length <= _; omega⟩ ?_)
  rintro ⟨x, nx, e, p⟩ hQ
  have hQ : recQ B at' (rcT (x, nx, e, p)) := hQ
  refine ifK (fun h2 => ?_) (fun h2 => ?_)
  ·have he : e ≠ 0 := by have h2 : (e != 0) = true := h2; simpa using h2
   have hl : l.length < n := by omega
   cases l with
   | nil =>
    refine aI (by kernel_rfl) ?_
    refine aI rfl (zAk (zAe [0] rfl rfl rfl (fun l e => by cases e) (by decide) (by decide) rfl rfl (zAt rfl) (d := 6) (d2 := 2) (lv := [(6, .slice none 0 0), (7, .int .i64 0), (8, .pointer (some ⟨0, 0, none⟩))]) (bs := [(0, .cells [.int .i64 e, .int .i64 p] 48)]) (bo := []) (W := []) (m := 1) (df := []) ⟨⟨_, rfl, zAh 8 rfl⟩, (sI rfl), (sP rfl rfl), tv⟩ ⟨bpo rfl, tv⟩ trivial .nil) (fun f => ?_))
    exact ⟨([], 0, e, p), 0, _, _, _, .inr ⟨rfl, rfl, he, _, at', x, nx, hm, hl, hQ⟩, rfl, by decide, fun h => ab rfl h⟩
   | cons y ys =>
    refine aI (by kernel_rfl) ?_
    refine aI rfl (zAk (zAe [0] rfl rfl rfl (fun l e => by cases e) (by decide) (by decide) rfl rfl (zAt rfl) (d := 6) (d2 := 2) (lv := [(6, .slice none 0 0), (7, .int .i64 0), (8, .pointer (some ⟨0, 0, none⟩))]) (bs := [(0, .cells [.int .i64 e, .int .i64 p] 48)]) (bo := []) (W := []) (m := 1) (df := []) ⟨⟨_, rfl, zAh 8 rfl⟩, (sI rfl), (sP rfl rfl), tv⟩ ⟨bpo rfl, tv⟩ trivial .nil) (fun f => ?_))
    exact ⟨([], 0, e, p), 0, _, _, _, .inr ⟨rfl, rfl, he, _, at', x, nx, hm, hl, hQ⟩, rfl, by decide, fun h => ab rfl h⟩
  have he : e = 0 := by have h2 : (e != 0) = false := h2; simpa using h2
  subst he
  have hm2 : rcC B a (l ++ [x]) nx := .snoc hm hQ
  cases l with
  | nil =>
   refine ⟨(i + 1, [x], nx), ⟨hlt, by rw [<- hql]; rfl, hm2⟩, by show n - (i + 1) < n - i; omega, ?_⟩
   exact zAe [0, 5] rfl rfl rfl (fun l e => by cases e) (by decide) (by decide) rfl rfl (zAt rfl) ⟨⟨_, rfl, zAh 8 rfl⟩, (sI rfl), (sI rfl), (sP rfl rfl), ⟨_, rfl, zIo (σ := sgO 0 [0, 5]) (b := 5) (b' := 1) rfl [x]⟩, zAd rfl (by rw [wrapN (by omega) (by omega)]; omega), tv⟩ ⟨bpo rfl, tv⟩ ⟨(fun o ho => ⟨by decide, _, rfl, by cases ho; exact zBm rfl rfl⟩), tv⟩ .nil
  | cons y ys =>
   have hfl : (List.flatMap layR.g (y :: ys)).length = (ys.length + 1) * 5 := zAc layR.g 5 layR.len (y :: ys)
   have hyl : ys.length + 1 = i := hql
   refine aI (by rw [hszR, hbyR]; simp only [bA, dT]; exact ⟨⟨⟨⟨⟨⟨rfl, rfl⟩, bL (by rw [hfl]; omega)⟩, rfl⟩, by omega⟩, by omega⟩, bL (by rw [hfl]; show (ys.length + 1) * 5 + 1 <= 0 + (ys.length + 1) * 5 + 5; omega)⟩) ?_
   have ec : List.take ((ys.length + 1) * 5) (List.flatMap layR.g (y :: ys)) ++ layR.g x = (y :: (ys ++ [x])).flatMap layR.g := by rw [aD (by rw [hfl]; omega), <- bC, List.flatMap_append]; simp
   refine ⟨(i + 1, y :: (ys ++ [x]), nx), ⟨hlt, by show (y :: (ys ++ [x])).length = _; simp; omega, hm2⟩, by show n - (i + 1) < n - i; omega, ?_⟩
   exact zAe [0, 5] rfl rfl rfl (fun l e => by cases e) (by decide) (by decide) rfl rfl (zAt rfl) ⟨⟨_, rfl, zAh 8 rfl⟩, (sI rfl), (sI rfl), (sP rfl rfl), ⟨_, rfl, Eq.mpr (congrArg (fun v => RV (sgO 0 [0, 5]) v _) (zBj y ys x 5)) (zIo (σ := sgO 0 [0, 5]) (b := 5) (b' := 1) rfl _)⟩, zAd rfl (by rw [wrapN (by omega) (by omega)]; omega), tv⟩ ⟨bpo rfl, tv⟩ ⟨(fun o ho => ⟨by decide, _, rfl, by cases ho; exact zBm (by rw [<- ec]; rfl) (zAf layR.g layR.plain _)⟩), tv⟩ .nil
 have hiq : i = n := by have h1 : ¬ ((i : Nat) : Int) < ((n : Nat) : Int) := oF h1; omega
 subst hiq
 refine aI rfl (zAk (zAe [0, 1] rfl rfl rfl (fun l e => by cases e) (by decide) (by decide) rfl rfl (zAt rfl) (d := 6) (d2 := 2) (lv := [(0, trB B), (1, .int .i64 at'), (8, .pointer (some ⟨0, 0, none⟩)), (9, lsV 1 l)]) (bs := [(0, .cells [.int .i64 0, .int .i64 0] 48)]) (bo := [(1, lsO layR l)]) (W := []) (m := 2) (df := []) ⟨⟨_, rfl, zAh 8 rfl⟩, (sI rfl), (sP rfl rfl), ⟨_, rfl, zIo (σ := sgO 0 [0, 1]) (b := 1) (b' := 1) rfl l⟩, tv⟩ ⟨bpo rfl, tv⟩ ⟨zAa layR (by decide) rfl, tv⟩ .nil) (fun f => ?_))
 cases l with
 | nil => exact ⟨([], at', 0, 0), 1, _, _, _, .inl ⟨rfl, rfl, hm, hql⟩, rfl, by decide, fun h => ab rfl h⟩
 | cons y ys => exact ⟨(y :: ys, at', 0, 0), 1, _, _, _, .inl ⟨rfl, rfl, hm, hql⟩, rfl, by decide, fun h => rfl⟩
def rlV (y : List RcX × Int × Int × Int) : Value := .tuple #[trR y.1, .int .i64 y.2.1, .agg #[.int .i64 y.2.2.1, .int .i64 y.2.2.2]]
noncomputable def cq_rlist : CtQ Try.prog :=
 { f := 66, X := Bl × Int × Nat, pre := fun x a _ _ => a = [trB x.1, .int .i64 x.2.1, .int .i64 (x.2.2 : Nat)] /\ x.1 ≠ [] /\ x.1.length <= 1000000 /\ x.2.2 < 65536, Q := fun x v => ∃ y, rlQ x.1 x.2.1 x.2.2 y /\ v = rlV y,
   ok := fun ⟨B, a, n⟩ as0 H m ⟨h1, h2, h3, h4⟩ => by
    subst h1
    obtain ⟨r, hF, y, b, H', k, wr, hq, rfl, hb, hg⟩ := rlist_fn B h3 h2 a n h4
    refine ⟨rlV y, ?_, y, hq, rfl⟩
    exact zGg hF (.cons _ _ _ _ (LtL.frz (by kernel_rfl) (LtL.tree layBy H B)) (.cons _ _ _ _ (.one _ _ (.plain _ rfl)) (.cons _ _ _ _ (.one _ _ (.plain _ rfl)) .nil)))
     (.tuple _ _ (.cons _ _ _ _ (lsV_frz (by kernel_rfl) hb hg) (.cons _ _ _ _ (.one _ _ (.plain _ rfl)) (.cons _ _ _ _ (.one _ _ (.plain _ rfl)) .nil)))),
   uniq := fun ⟨B, a, n⟩ ⟨B', a', n'⟩ as0 H m ⟨h1, _⟩ ⟨k1, _⟩ => by
    rw [h1] at k1
    simp only [aQ, Value.int.injEq, true_and, and_true] at k1
    obtain ⟨e1, e2, e3⟩ := k1
    rw [show B = B' from zNq e1, show a = a' from e2, show n = n' from Int.ofNat.inj e3] }
noncomputable def ct_rlistT : Ct Try.prog 0 := cq_rlist.ctY (List RcX × Int × Int × Int) rlV (fun (x : Bl × Int × Nat) y => rlQ x.1 x.2.1 x.2.2 y) (fun _ _ ⟨y, h, e⟩ => ⟨y, e, h⟩)
end
section
open Go Go.RowKit
end
section
open Go Go.RowKit
end
section
open Go Go.RowKit
end
section
open Go Go.RowKit
theorem queQ.place {B : Bl} {a : Int} {x : QuX} {nx e p : Int} (h : queQ B a (quT (x, nx, e, p))) : (e = 0 -> 0 <= nx /\ nx <= B.length) /\ (e ≠ 0 -> 0 <= p /\ p <= B.length) := by
 generalize hv : quT (x, nx, e, p) = v at h
 cases h with
 | @name r h he =>
  have hv : quT (x, nx, e, p) = quT (⟨⟨#[]⟩, 0, 0⟩, 0, r.e, r.pos) := hv
  obtain ⟨_, _, rfl, rfl⟩ := zIa hv
  exact ⟨fun h0 => ab h0 he, fun _ => h.fine.1 he⟩
 | short h he hk hl2 =>
  have hv : quT (x, nx, e, p) = quT (⟨⟨#[]⟩, 0, 0⟩, 0, 4, (B.length : Int)) := hv
  obtain ⟨_, _, rfl, rfl⟩ := zIa hv
  exact ⟨fun h0 => ab h0 (by decide), fun _ => ⟨by omega, by omega⟩⟩
 | @fine r k h he hk hl2 =>
  have hv : quT (x, nx, e, p) = quT (⟨mkS r.s, numAt B k 2, numAt B (k + 2) 2⟩, ((k + 4 : Nat) : Int), 0, 0) := hv
  obtain ⟨_, rfl, rfl, _⟩ := zIa hv
  exact ⟨fun _ => ⟨by omega, by omega⟩, fun h0 => ab rfl h0⟩
theorem recQ.place {B : Bl} {a : Int} {x : RcX} {nx e p : Int} (h : recQ B a (rcT (x, nx, e, p))) : (e = 0 -> 0 <= nx /\ nx <= B.length) /\ (e ≠ 0 -> 0 <= p /\ p <= B.length) := by
 generalize hv : rcT (x, nx, e, p) = v at h
 cases h with
 | @name r h he =>
  have hv : rcT (x, nx, e, p) = rcT (⟨⟨#[]⟩, 0, 0, 0, ⟨#[]⟩⟩, 0, r.e, r.pos) := hv
  obtain ⟨_, _, rfl, rfl⟩ := zGj hv
  exact ⟨fun h0 => ab h0 he, fun _ => h.fine.1 he⟩
 | short h he hk hl2 =>
  have hv : rcT (x, nx, e, p) = rcT (⟨⟨#[]⟩, 0, 0, 0, ⟨#[]⟩⟩, 0, 4, (B.length : Int)) := hv
  obtain ⟨_, _, rfl, rfl⟩ := zGj hv
  exact ⟨fun h0 => ab h0 (by decide), fun _ => ⟨by omega, by omega⟩⟩
 | @data r k y h he hk hl2 hy hf =>
  have hv : rcT (x, nx, e, p) = rcT (⟨⟨#[]⟩, 0, 0, 0, ⟨#[]⟩⟩, 0, y.2.1, y.2.2) := hv
  obtain ⟨_, _, rfl, rfl⟩ := zGj hv
  exact ⟨fun h0 => ab h0 hf, fun _ => (hy.fine.1 hf).2⟩
 | @fine r k y h he hk hl2 hy hf =>
  have hv : rcT (x, nx, e, p) = rcT (⟨mkS r.s, numAt B k 2, numAt B (k + 2) 2, (if numAt B (k + 4) 4 > 2147483647 then 0 else (numAt B (k + 4) 4 : Int)), mkS y.1⟩, ((k + 10 : Nat) : Int) + (numAt B (k + 8) 2 : Int), 0, 0) := hv
  obtain ⟨_, rfl, rfl, _⟩ := zGj hv
  obtain ⟨_, _, h3, h4⟩ := hy.fine.2 hf
  exact ⟨fun _ => ⟨by omega, by omega⟩, fun h0 => ab rfl h0⟩
theorem mrQ.place {B : Bl} {nq : Nat} {l : List MwI} {a : Int} (h : mrQ B nq l a) (hB : 12 <= B.length) : 0 <= a /\ a <= B.length := by
 induction h with
 | nil => exact ⟨by decide, by omega⟩
 | q h hl hq ih => exact hq.place.1 rfl
 | r h hl hr ih => exact hr.place.1 rfl
theorem msg_fault {B : Bl} {m : MsT} {e p : Int} (h : msQ B m e p) (he : e ≠ 0) : m = zM /\ 0 <= p /\ p <= B.length := by
 cases h with
 | long h => exact ⟨rfl, Int.le_refl _, by omega⟩
 | short h => exact ⟨rfl, by omega, by omega⟩
 | fault h hl ht hb h0 =>
  refine ⟨rfl, ?_⟩
  rcases hb with ⟨_, x, nx, hb⟩ | ⟨_, x, nx, hb⟩
  ·exact hb.place.2 he
  exact hb.place.2 he
 | rest h hl ht ha => exact ⟨rfl, hl.place h.1⟩
 | fine h => exact ab rfl he
end
section
open Go Go.RowKit
noncomputable def tbMr2 : Tb Try.prog 0 := tbOf mixed [zLk, zMn, ct_rlistT]
def rmrS (B : Bl) (x : Nat × List QuX × Int) (f : Nat -> Option Value) : Fs := ⟨slots 7 [(0, trB B), (2, .pointer (some ⟨0, 0, none⟩)), (3, .pointer (some ⟨1, 0, none⟩)), (4, .pointer (some ⟨2, 0, none⟩)), (9, .pointer (some ⟨3, 0, none⟩)), (10, .int .i64 x.2.2), (11, .int .i64 (x.1 : Nat))] f, heapO 3 [(0, .cells [.int .i64 0, .int .i64 0, .slice none 0 0, .slice none 0 0, .slice none 0 0, .slice none 0 0] 25), (1, .cells [.int .i64 0, .int .i64 0] 48), (2, .cells [.int .i64 (numAt B 0 2 : Nat), .int .i64 (numAt B 2 2 : Nat), .int .i64 (numAt B 4 2 : Nat), .int .i64 (numAt B 6 2 : Nat), .int .i64 (numAt B 8 2 : Nat), .int .i64 (numAt B 10 2 : Nat)] 85), (3, .cells [.int .i64 (numAt B 0 2 : Nat), .int .i64 (numAt B 2 2 : Nat), lsV 4 x.2.1, .slice none 0 0, .slice none 0 0, .slice none 0 0] 25)] [(4, lsO layQ x.2.1)], 5, [], []⟩
theorem rr_ro {σ : Nat -> Nat -> Prop} {b b' : Nat} {id fl : Int} (h : σ b b') (q : List QuX) : RO Try.prog σ (.cells [.int .i64 id, .int .i64 fl, lsV b q, .slice none 0 0, .slice none 0 0, .slice none 0 0] 25) (.cells [.int .i64 id, .int .i64 fl, lsV b' q, .slice none 0 0, .slice none 0 0, .slice none 0 0] 25) :=
 RO.cells _ [] _ _ (.cons _ _ _ _ (.int _ _) (.cons _ _ _ _ (.int _ _) (.cons _ _ _ _ (zIo h q) (.cons _ _ _ _ (zBh 8 rfl) (.cons _ _ _ _ (zBh 8 rfl) (.cons _ _ _ _ (zBh 8 rfl) .nil))))))
theorem rr_roV {σ : Nat -> Nat -> Prop} {b b' : Nat} {id fl : Int} (h : σ b b') (q : List QuX) {v : Value} (e : v = lsV b q) : RO Try.prog σ (.cells [.int .i64 id, .int .i64 fl, v, .slice none 0 0, .slice none 0 0, .slice none 0 0] 25) (.cells [.int .i64 id, .int .i64 fl, lsV b' q, .slice none 0 0, .slice none 0 0, .slice none 0 0] 25) := by subst e; exact rr_ro h q
def rrRes (B : Bl) (r : Res) : Prop := ∃ m e p v H k wr, msQ B m e p /\ r = .ret v H k wr /\ FrzP True Try.prog 0 H v (msgV m e p)
theorem zBw {B : Bl} {e p : Int} {H : Tr AObj} {k : Nat} {wr : List Nat} (h : msQ B zM e p) : rrRes B (.ret (.tuple #[.agg #[.int .i64 0, .int .i64 0, .slice none 0 0, .slice none 0 0, .slice none 0 0, .slice none 0 0], .agg #[.int .i64 e, .int .i64 p]]) H k wr) :=
 ⟨zM, e, p, _, H, k, wr, h, rfl, .tuple _ _ (.cons _ _ _ _ (.agg _ _ (.cons _ _ _ _ (.one _ _ (.plain _ rfl)) (.cons _ _ _ _ (.one _ _ (.plain _ rfl)) (.cons _ _ _ _ (.one _ _ (.nil _)) (.cons _ _ _ _ (.one _ _ (.nil _)) (.cons _ _ _ _ (.one _ _ (.nil _)) (.cons _ _ _ _ (.one _ _ (.nil _)) .nil))))))) (.cons _ _ _ _ (.one _ _ (.plain _ rfl)) .nil))⟩
theorem lt_tot0 {B : Bl} {L : List MwI} {r : List RcX} (hl : L.length = numAt B 4 2) (h : r.length < numAt B 6 2) : (L ++ r.map Sum.inr).length < totB B := by rw [aB, aT]; unfold totB; omega
theorem lt_tot1 {B : Bl} {L : List MwI} {r : List RcX} (hl : L.length = numAt B 4 2 + numAt B 6 2) (h : r.length < numAt B 8 2) : (L ++ r.map Sum.inr).length < totB B := by rw [aB, aT]; unfold totB; omega
theorem lt_tot2 {B : Bl} {L : List MwI} {r : List RcX} (hl : L.length = numAt B 4 2 + numAt B 6 2 + numAt B 8 2) (h : r.length < numAt B 10 2) : (L ++ r.map Sum.inr).length < totB B := by rw [aB, aT]; unfold totB; omega
theorem zVo (B : Bl) (hB : B.length <= 1000000) : ∃ r, FnS Try.prog 0 35 [trB B] .e 0 r /\ rrRes B r := by
 have hszQ : (Try.prog.types[57]).size = 3 := by kernel_rfl
 have hbyQ : (Try.prog.types[57]).bytes = 32 := by kernel_rfl
 refine zAu mixed tbMr2 [] Try.func35 (c := bodyOf Try.f35) (by kernel_rfl) ?_
 refine ifK (fun g1 => ?_) (fun g1 => ?_)
 ·have g1 : 65535 < B.length := by have g1 : ((B.length : Nat) : Int) > 65535 := oT g1; omega
  exact zBw (.long g1)
 have g1 : B.length <= 65535 := by have g1 : ¬ ((B.length : Nat) : Int) > 65535 := oF g1; omega
 refine ifK (fun g2 => ?_) (fun g2 => ?_)
 ·have g2 : B.length < 12 := by have g2 : ((B.length : Nat) : Int) < 12 := oT g2; omega
  exact zBw (.short g2)
 have g2 : 12 <= B.length := by have g2 : ¬ ((B.length : Nat) : Int) < 12 := oF g2; omega
 have hne : B ≠ [] := fun h => by rw [h] at g2; exact ab g2 (by decide)
 refine LW.round ?_
 refine zAs tbMr2 [] 0 _ none mixed _ _ _ ?_
 refine eI (B, (0 : Int)) (aI ⟨rfl, hne, by show B.length <= _; omega, (show (0 : Int) <= 0 by decide), by show 0 + 2 <= B.length; omega⟩ ?_)
 refine LW.round ?_
 refine zAs tbMr2 [] 0 _ none mixed _ _ _ ?_
 refine eI (B, (2 : Int)) (aI ⟨rfl, hne, by show B.length <= _; omega, (show (0 : Int) <= 2 by decide), by show 2 + 2 <= B.length; omega⟩ ?_)
 refine LW.round ?_
 refine zAs tbMr2 [] 0 _ none mixed _ _ _ ?_
 refine eI (B, (4 : Int)) (aI ⟨rfl, hne, by show B.length <= _; omega, (show (0 : Int) <= 4 by decide), by show 4 + 2 <= B.length; omega⟩ ?_)
 refine LW.round ?_
 refine zAs tbMr2 [] 0 _ none mixed _ _ _ ?_
 refine eI (B, (6 : Int)) (aI ⟨rfl, hne, by show B.length <= _; omega, (show (0 : Int) <= 6 by decide), by show 6 + 2 <= B.length; omega⟩ ?_)
 refine LW.round ?_
 refine zAs tbMr2 [] 0 _ none mixed _ _ _ ?_
 refine eI (B, (8 : Int)) (aI ⟨rfl, hne, by show B.length <= _; omega, (show (0 : Int) <= 8 by decide), by show 8 + 2 <= B.length; omega⟩ ?_)
 refine LW.round ?_
 refine zAs tbMr2 [] 0 _ none mixed _ _ _ ?_
 refine eI (B, (10 : Int)) (aI ⟨rfl, hne, by show B.length <= _; omega, (show (0 : Int) <= 10 by decide), by show 10 + 2 <= B.length; omega⟩ ?_)
 refine LW.round ?_
 refine zAs tbMr2 [] 0 _ none mixed _ _ _ ?_
 refine zAv (rmrS B) (fun x => numAt B 4 2 - x.1) (fun x => x.1 <= numAt B 4 2 /\ x.2.1.length = x.1 /\ mrQ B (numAt B 4 2) (x.2.1.map .inl) x.2.2) (0, [], 12) ⟨aH _, rfl, .nil⟩ ?_ ?_
 ·exact zAe [0, 1, 2, 9, 40] rfl rfl rfl (fun l e => by cases e) (by decide) (by decide) rfl rfl (zAt rfl) ⟨⟨_, rfl, zAh 8 rfl⟩, (sP rfl rfl), (sP rfl rfl), (sP rfl rfl), (sP rfl rfl), (sI rfl), (sI rfl), tv⟩ ⟨bpo rfl, bpo rfl, bpo rfl, bpo rfl, tv⟩ ⟨(fun o ho => by cases ho), tv⟩ .nil
 rintro ⟨i, q, at'⟩ f ⟨hi, hql, hm⟩
 have hi : i <= numAt B 4 2 := hi
 have hql : q.length = i := hql
 have hm : mrQ B (numAt B 4 2) (q.map .inl) at' := hm
 have hn2 : numAt B 4 2 < 65536 := zDc B 4
 refine zAs tbMr2 [] 0 _ none mixed _ _ _ ?_
 refine ifK (fun h1 => ?_) (fun h1 => ?_)
 ·have hlt : i < numAt B 4 2 := by have h1 : ((i : Nat) : Int) < ((numAt B 4 2 : Nat) : Int) := oT h1; omega
  refine eI (B, at') (aI ⟨rfl, hne, by show B.length <= _; omega⟩ ?_)
  rintro ⟨x, nx, e, p⟩ hQ
  have hQ : queQ B at' (quT (x, nx, e, p)) := hQ
  refine ifK (fun h2 => ?_) (fun h2 => ?_)
  ·have he : e ≠ 0 := by have h2 : (e != 0) = true := h2; simpa using h2
   have hb : mrBad B (numAt B 4 2) (q.map .inl) at' e p := .inl ⟨by rw [aT]; omega, x, nx, hQ⟩
   have ht : (q.map (Sum.inl (β := RcX))).length < totB B := by rw [aT]; unfold totB; omega
   cases q with
   | nil =>
    refine aI (by kernel_rfl) ?_
    refine aI rfl (zAk (zAe [0, 1] rfl rfl rfl (fun l e => by cases e) (by decide) (by decide) rfl rfl (zAt rfl) (d := 7) (d2 := 3) (lv := [(2, .pointer (some ⟨0, 0, none⟩)), (3, .pointer (some ⟨1, 0, none⟩))]) (bs := [(0, .cells [.int .i64 0, .int .i64 0, .slice none 0 0, .slice none 0 0, .slice none 0 0, .slice none 0 0] 25), (1, .cells [.int .i64 e, .int .i64 p] 48)]) (bo := []) (W := []) (m := 2) (df := []) ⟨(sP rfl rfl), (sP rfl rfl), tv⟩ ⟨bpo rfl, bpo rfl, tv⟩ trivial .nil) (fun f => ?_))
    exact zBw (.fault ⟨g2, g1⟩ hm ht hb he)
   | cons y ys =>
    refine aI (by kernel_rfl) ?_
    refine aI rfl (zAk (zAe [0, 1] rfl rfl rfl (fun l e => by cases e) (by decide) (by decide) rfl rfl (zAt rfl) (d := 7) (d2 := 3) (lv := [(2, .pointer (some ⟨0, 0, none⟩)), (3, .pointer (some ⟨1, 0, none⟩))]) (bs := [(0, .cells [.int .i64 0, .int .i64 0, .slice none 0 0, .slice none 0 0, .slice none 0 0, .slice none 0 0] 25), (1, .cells [.int .i64 e, .int .i64 p] 48)]) (bo := []) (W := []) (m := 2) (df := []) ⟨(sP rfl rfl), (sP rfl rfl), tv⟩ ⟨bpo rfl, bpo rfl, tv⟩ trivial .nil) (fun f => ?_))
    exact zBw (.fault ⟨g2, g1⟩ hm ht hb he)
  have he : e = 0 := by have h2 : (e != 0) = false := h2; simpa using h2
  subst he
  have hm2 : mrQ B (numAt B 4 2) ((q ++ [x]).map .inl) nx := by
   rw [List.map_append]
   exact .q hm (by rw [aT]; omega) hQ
  cases q with
  | nil =>
   refine ⟨(i + 1, [x], nx), ⟨hlt, by rw [<- hql]; rfl, hm2⟩, by show numAt B 4 2 - (i + 1) < numAt B 4 2 - i; omega, ?_⟩
   exact zAe [0, 1, 2, 3, 8] rfl rfl rfl (fun l e => by cases e) (by decide) (by decide) rfl rfl (zAt rfl) ⟨⟨_, rfl, zAh 8 rfl⟩, (sP rfl rfl), (sP rfl rfl), (sP rfl rfl), (sP rfl rfl), (sI rfl), zAd rfl (by rw [wrapN (by omega) (by omega)]; omega), tv⟩ ⟨bpo rfl, bpo rfl, bpo rfl, ⟨by decide, _, rfl, by show RO _ _ (.cells [.int .i64 _, .int .i64 _, lsV 8 [x], .slice none 0 0, .slice none 0 0, .slice none 0 0] _) _; exact rr_ro (σ := sgO 0 [0, 1, 2, 3, 8]) rfl [x]⟩, tv⟩ ⟨(fun o ho => ⟨by decide, _, rfl, by cases ho; exact zBm rfl rfl⟩), tv⟩ .nil
  | cons y ys =>
   have hfl : (List.flatMap layQ.g (y :: ys)).length = (ys.length + 1) * 3 := zAc layQ.g 3 layQ.len (y :: ys)
   have hyl : ys.length + 1 = i := hql
   refine aI (by rw [hszQ, hbyQ]; simp only [bA, dT]; exact ⟨⟨⟨⟨⟨⟨rfl, rfl⟩, bL (by rw [hfl]; omega)⟩, rfl⟩, by omega⟩, by omega⟩, bL (by rw [hfl]; show (ys.length + 1) * 3 + 1 <= 0 + (ys.length + 1) * 3 + 3; omega)⟩) ?_
   have ec : List.take ((ys.length + 1) * 3) (List.flatMap layQ.g (y :: ys)) ++ layQ.g x = (y :: (ys ++ [x])).flatMap layQ.g := by rw [aD (by rw [hfl]; omega), <- bC, List.flatMap_append]; simp
   refine ⟨(i + 1, y :: (ys ++ [x]), nx), ⟨hlt, by show (y :: (ys ++ [x])).length = _; simp; omega, hm2⟩, by show numAt B 4 2 - (i + 1) < numAt B 4 2 - i; omega, ?_⟩
   exact zAe [0, 1, 2, 3, 8] rfl rfl rfl (fun l e => by cases e) (by decide) (by decide) rfl rfl (zAt rfl) ⟨⟨_, rfl, zAh 8 rfl⟩, (sP rfl rfl), (sP rfl rfl), (sP rfl rfl), (sP rfl rfl), (sI rfl), zAd rfl (by rw [wrapN (by omega) (by omega)]; omega), tv⟩ ⟨bpo rfl, bpo rfl, bpo rfl, ⟨by decide, _, rfl, by exact rr_roV (σ := sgO 0 [0, 1, 2, 3, 8]) (b := 8) (b' := 4) rfl _ (zBj y ys x 8)⟩, tv⟩ ⟨(fun o ho => ⟨by decide, _, rfl, by cases ho; exact zBm (by rw [<- ec]; rfl) (zAf layQ.g layQ.plain _)⟩), tv⟩ .nil
 have hiq : i = numAt B 4 2 := by have h1 : ¬ ((i : Nat) : Int) < ((numAt B 4 2 : Nat) : Int) := oF h1; omega
 subst hiq
 refine aI rfl (zAk (zAe [0, 1, 2, 3, 4] rfl rfl rfl (fun l e => by cases e) (by decide) (by decide) rfl rfl (zAt rfl) (d := 7) (d2 := 3) (lv := [(0, trB B), (2, .pointer (some ⟨0, 0, none⟩)), (3, .pointer (some ⟨1, 0, none⟩)), (4, .pointer (some ⟨2, 0, none⟩)), (9, .pointer (some ⟨3, 0, none⟩)), (10, .int .i64 at')]) (bs := [(0, .cells [.int .i64 0, .int .i64 0, .slice none 0 0, .slice none 0 0, .slice none 0 0, .slice none 0 0] 25), (1, .cells [.int .i64 0, .int .i64 0] 48), (2, .cells [.int .i64 (numAt B 0 2 : Nat), .int .i64 (numAt B 2 2 : Nat), .int .i64 (numAt B 4 2 : Nat), .int .i64 (numAt B 6 2 : Nat), .int .i64 (numAt B 8 2 : Nat), .int .i64 (numAt B 10 2 : Nat)] 85), (3, .cells [.int .i64 (numAt B 0 2 : Nat), .int .i64 (numAt B 2 2 : Nat), lsV 4 q, .slice none 0 0, .slice none 0 0, .slice none 0 0] 25)]) (bo := [(4, lsO layQ q)]) (W := []) (m := 5) (df := []) ⟨⟨_, rfl, zAh 8 rfl⟩, (sP rfl rfl), (sP rfl rfl), (sP rfl rfl), (sP rfl rfl), (sI rfl), tv⟩ ⟨bpo rfl, bpo rfl, bpo rfl, ⟨by decide, _, rfl, by exact rr_ro (σ := sgO 0 [0, 1, 2, 3, 4]) (b := 4) (b' := 4) rfl q⟩, tv⟩ ⟨zAa layQ (by decide) rfl, tv⟩ .nil) (fun f => ?_))
 have hlq : q.length = numAt B 4 2 := hql
 have hm0 : mrQ B (numAt B 4 2) (q.map (Sum.inl (β := RcX))) at' := hm
 have hl0 : (q.map (Sum.inl (β := RcX))).length = numAt B 4 2 := by rw [aT]; exact hlq
 refine LW.round ?_
 refine zAs tbMr2 [] 0 _ none mixed _ _ _ ?_
 refine eI (B, at', numAt B 6 2) (aI ⟨rfl, hne, by show B.length <= _; omega, zDc B 6⟩ ?_)
 rintro ⟨an, a1, e, p⟩ hQ
 have hQ : rlQ B at' (numAt B 6 2) (an, a1, e, p) := hQ
 refine ifK (fun h2 => ?_) (fun h2 => ?_)
 ·have he : e ≠ 0 := by have h2 : (e != 0) = true := h2; simpa using h2
  obtain ⟨l, c, x, nx, hc, hlt, hr⟩ : ∃ l c x nx, rcC B at' l c /\ l.length < numAt B 6 2 /\ recQ B c (rcT (x, nx, e, p)) := by
   rcases hQ with ⟨h0, _⟩ | ⟨_, _, _, h⟩
   ·exact ab h0 he
   exact h
  have hm2 := hm0.recs (by rw [hl0]; omega) hc
  have hb : mrBad B (numAt B 4 2) (q.map (Sum.inl (β := RcX)) ++ l.map Sum.inr) c e p := .inr ⟨by rw [aB, hl0]; omega, x, nx, hr⟩
  have ht := lt_tot0 (r := l) (B := B) hl0 hlt
  cases q with
  | nil =>
   refine aI (by kernel_rfl) ?_
   exact zBw (.fault ⟨g2, g1⟩ hm2 ht hb he)
  | cons y ys =>
   refine aI (by kernel_rfl) ?_
   exact zBw (.fault ⟨g2, g1⟩ hm2 ht hb he)
 have he : e = 0 := by have h2 : (e != 0) = false := h2; simpa using h2
 subst he
 obtain ⟨hr1, hn1⟩ : rcC B at' an a1 /\ an.length = numAt B 6 2 := by
  rcases hQ with ⟨_, _, h⟩ | ⟨_, _, h, _⟩
  ·exact h
  exact ab rfl h
 have hm1 := hm0.recs (by rw [hl0]; omega) hr1
 have hl1 : (q.map (Sum.inl (β := RcX)) ++ an.map Sum.inr).length = numAt B 4 2 + numAt B 6 2 := by rw [aB, hl0, aT, hn1]
 refine LW.round ?_
 refine zAs tbMr2 [] 0 _ none mixed _ _ _ ?_
 refine eI (B, a1, numAt B 8 2) (aI ⟨rfl, hne, by show B.length <= _; omega, zDc B 8⟩ ?_)
 rintro ⟨ns, a2, e, p⟩ hQ
 have hQ : rlQ B a1 (numAt B 8 2) (ns, a2, e, p) := hQ
 refine ifK (fun h2 => ?_) (fun h2 => ?_)
 ·have he : e ≠ 0 := by have h2 : (e != 0) = true := h2; simpa using h2
  obtain ⟨l, c, x, nx, hc, hlt, hr⟩ : ∃ l c x nx, rcC B a1 l c /\ l.length < numAt B 8 2 /\ recQ B c (rcT (x, nx, e, p)) := by
   rcases hQ with ⟨h0, _⟩ | ⟨_, _, _, h⟩
   ·exact ab h0 he
   exact h
  have hm2 := hm1.recs (by rw [hl1]; omega) hc
  have hb : mrBad B (numAt B 4 2) ((q.map (Sum.inl (β := RcX)) ++ an.map Sum.inr) ++ l.map Sum.inr) c e p := .inr ⟨by rw [aB, hl1]; omega, x, nx, hr⟩
  have ht := lt_tot1 (r := l) (B := B) hl1 hlt
  cases q with
  | nil =>
   refine aI (by kernel_rfl) ?_
   exact zBw (.fault ⟨g2, g1⟩ hm2 ht hb he)
  | cons y ys =>
   refine aI (by kernel_rfl) ?_
   exact zBw (.fault ⟨g2, g1⟩ hm2 ht hb he)
 have he : e = 0 := by have h2 : (e != 0) = false := h2; simpa using h2
 subst he
 obtain ⟨hr2, hn2'⟩ : rcC B a1 ns a2 /\ ns.length = numAt B 8 2 := by
  rcases hQ with ⟨_, _, h⟩ | ⟨_, _, h, _⟩
  ·exact h
  exact ab rfl h
 have hm2 := hm1.recs (by rw [hl1]; omega) hr2
 have hl2 : ((q.map (Sum.inl (β := RcX)) ++ an.map Sum.inr) ++ ns.map Sum.inr).length = numAt B 4 2 + numAt B 6 2 + numAt B 8 2 := by rw [aB, hl1, aT, hn2']
 refine LW.round ?_
 refine zAs tbMr2 [] 0 _ none mixed _ _ _ ?_
 refine eI (B, a2, numAt B 10 2) (aI ⟨rfl, hne, by show B.length <= _; omega, zDc B 10⟩ ?_)
 rintro ⟨ar, a3, e, p⟩ hQ
 have hQ : rlQ B a2 (numAt B 10 2) (ar, a3, e, p) := hQ
 refine ifK (fun h2 => ?_) (fun h2 => ?_)
 ·have he : e ≠ 0 := by have h2 : (e != 0) = true := h2; simpa using h2
  obtain ⟨l, c, x, nx, hc, hlt, hr⟩ : ∃ l c x nx, rcC B a2 l c /\ l.length < numAt B 10 2 /\ recQ B c (rcT (x, nx, e, p)) := by
   rcases hQ with ⟨h0, _⟩ | ⟨_, _, _, h⟩
   ·exact ab h0 he
   exact h
  have hm2 := hm2.recs (by rw [hl2]; omega) hc
  have hb : mrBad B (numAt B 4 2) (((q.map (Sum.inl (β := RcX)) ++ an.map Sum.inr) ++ ns.map Sum.inr) ++ l.map Sum.inr) c e p := .inr ⟨by rw [aB, hl2]; omega, x, nx, hr⟩
  have ht := lt_tot2 (r := l) (B := B) hl2 hlt
  cases q with
  | nil =>
   refine aI (by kernel_rfl) ?_
   exact zBw (.fault ⟨g2, g1⟩ hm2 ht hb he)
  | cons y ys =>
   refine aI (by kernel_rfl) ?_
   exact zBw (.fault ⟨g2, g1⟩ hm2 ht hb he)
 have he : e = 0 := by have h2 : (e != 0) = false := h2; simpa using h2
 subst he
 obtain ⟨hr3, hn3⟩ : rcC B a2 ar a3 /\ ar.length = numAt B 10 2 := by
  rcases hQ with ⟨_, _, h⟩ | ⟨_, _, h, _⟩
  ·exact h
  exact ab rfl h
 have hm3 := hm2.recs (by rw [hl2]; omega) hr3
 have hl3 : (((q.map (Sum.inl (β := RcX)) ++ an.map Sum.inr) ++ ns.map Sum.inr) ++ ar.map Sum.inr).length = numAt B 4 2 + numAt B 6 2 + numAt B 8 2 + numAt B 10 2 := by rw [aB, hl2, aT, hn3]
 refine LW.round ?_
 refine zAs tbMr2 [] 0 _ none mixed _ _ _ ?_
 have hpl := hm3.place g2
 refine ifK (fun h3 => ?_) (fun h3 => ?_)
 ·have h3 : a3 < (B.length : Nat) := oT h3
  cases q with
  | nil => exact zBw (.rest ⟨g2, g1⟩ hm3 (by rw [hl3]; unfold totB; omega) (Int.ne_of_lt h3))
  | cons y ys => exact zBw (.rest ⟨g2, g1⟩ hm3 (by rw [hl3]; unfold totB; omega) (Int.ne_of_lt h3))
 have h3 : ¬ a3 < (B.length : Nat) := oF h3
 have ea : a3 = (B.length : Nat) := by omega
 subst ea
 have hq0 : msQ B ⟨(numAt B 0 2 : Nat), (numAt B 2 2 : Nat), q, an, ns, ar⟩ 0 0 := .fine ⟨g2, g1⟩ (by unfold MsT.items; rw [<- aN, <- aN]; exact hm3) ⟨rfl, rfl, hlq, hn1, hn2', hn3⟩
 cases q with
 | nil => exact ⟨_, 0, 0, _, _, _, _, hq0, rfl, .tuple _ _ (.cons _ _ _ _ (.agg _ _ (.cons _ _ _ _ (.one _ _ (.plain _ rfl)) (.cons _ _ _ _ (.one _ _ (.plain _ rfl)) (.cons _ _ _ _ (.one _ _ (.nil _)) (.cons _ _ _ _ (.one _ _ (.deep _ _ _ _ _ _ trivial)) (.cons _ _ _ _ (.one _ _ (.deep _ _ _ _ _ _ trivial)) (.cons _ _ _ _ (.one _ _ (.deep _ _ _ _ _ _ trivial)) .nil))))))) (.cons _ _ _ _ (.one _ _ (.plain _ rfl)) .nil))⟩
 | cons y ys =>
  exact ⟨_, 0, 0, _, _, _, _, hq0, rfl, .tuple _ _ (.cons _ _ _ _ (.agg _ _ (.cons _ _ _ _ (.one _ _ (.plain _ rfl)) (.cons _ _ _ _ (.one _ _ (.plain _ rfl)) (.cons _ _ _ _ (lsV_frz (L := layQ) (l := y :: ys) (b := 4) (by kernel_rfl) (by decide) (fun _ => rfl)) (.cons _ _ _ _ (.one _ _ (.deep _ _ _ _ _ _ trivial)) (.cons _ _ _ _ (.one _ _ (.deep _ _ _ _ _ _ trivial)) (.cons _ _ _ _ (.one _ _ (.deep _ _ _ _ _ _ trivial)) .nil))))))) (.cons _ _ _ _ (.one _ _ (.plain _ rfl)) .nil))⟩
noncomputable def zUt : CtQ Try.prog :=
 { f := 35, X := Bl, pre := fun x a _ _ => a = [trB x] /\ x.length <= 1000000, Q := fun x v => ∃ m e p, msQ x m e p /\ v = msgV m e p,
   ok := fun B as0 H n ⟨h1, h2⟩ => by
    subst h1
    obtain ⟨r, hF, m, e, p, v, H', k, wr, hq, rfl, hz⟩ := zVo B h2
    exact ⟨msgV m e p, zLh hF rfl hz H n, m, e, p, hq, rfl⟩,
   uniq := fun B B' as0 H m ⟨h1, _⟩ ⟨k1, _⟩ => by
    rw [h1] at k1
    simp only [aQ, and_true] at k1
    exact zNq k1 }
noncomputable def zQm : Ct Try.prog 0 := zUt.ctY (MsT × Int × Int) (fun y => msgV y.1 y.2.1 y.2.2) (fun (x : Bl) y => msQ x y.1 y.2.1 y.2.2) (fun _ _ ⟨m, e, p, hq, h⟩ => ⟨(m, e, p), h, hq⟩)
end
section
open Go Go.RowKit
def lnTS (l : Bl) (k : Nat) (f : Nat -> Option Value) : Fs :=
 ⟨slots 6 [(0, trB l), (3, .slice (some ⟨0, 0, none⟩) (l.length + 3) (l.length + 3)), (4, .int .i64 ((l.length + k : Nat) : Int))] f, heap 2 [(0, .cells ((lentK l k).map byV) 5)], 1, [], []⟩
theorem srcB_tree {G : Gh} (l : Bl) : zAj G 1 (trB l) = some (l.length, l.map byV) := by
 have : zAj G 1 (trB l) = some (l.length, l.flatMap layBy.g) := rfl
 rw [this, zHv]
theorem lentT_fn (l : Bl) (hn : l.length <= 1000000000) : ∃ r, FnS Try.prog 0 33 [trB l] .e 0 r /\
  ∃ H m wr, r = .ret (.slice (some ⟨0, 0, none⟩) l.length (l.length + 3)) H m wr /\ H.get 0 = some (.cells ((lentL l).map byV) 5) := by
 have h1s : (Try.prog.types[5]).size = 1 := by kernel_rfl
 have e3 : IntKind.i64.wrap ((l.length : Int) + 3) = ((l.length + 3 : Nat) : Int) := by rw [wrapM (by omega) (by omega)]; omega
 refine zAu mixed tbLB [0, 900001, 900004] Try.func33 (c := bodyOf Try.f33) (by kernel_rfl) ?_
 have hmk := made_lay layU (0 : UInt8) (z := (Value.int .u8 0).cells) rfl (l.length + 3)
 refine eI (.slice (some ⟨0, 0, none⟩) (l.length + 3) (l.length + 3)) (eI [(0, some (.cells ((List.replicate (l.length + 3) (0 : UInt8)).map byV) 5))] (eI 1 (aI ?_ ?_)))
 ·refine aop_make (e := 5) (z := .int .u8 0) (sz := 1) (bytes := 1) rfl rfl rfl (by kernel_rfl) zIx (l := IntKind.i64.wrap ((l.length : Int) + 3)) (c := IntKind.i64.wrap ((l.length : Int) + 3)) (by rw [e3]; omega) ?_ (zAb _) (by rw [e3]; rfl)
  rw [e3]
  have hmk : (madeCells (Value.int .u8 0).cells ((l.length + 3) * 1)).toList = _ := hmk
  rw [show (((l.length + 3 : Nat) : Int)).toNat * 1 = (l.length + 3) * 1 from rfl, hmk]
  exact layU_flat _
 have fin : l ++ List.replicate 3 (0 : UInt8) = lentK l 0 := by simp [lentK, List.range_succ]
 have loop : ∀ (s0 : Fs) (f0 : ∃ f, RcM Try.prog 0 0 (1 + (Try.f33.ntmps - 1)) none s0 (lnTS l 0 f)) (K : Ex -> Fs -> Prop), (∀ f, K (.exit 0) ⟨slots 6 [(0, trB l), (3, .slice (some ⟨0, 0, none⟩) (l.length + 3) (l.length + 3))] f, heap 2 [(0, .cells ((lentL l).map byV) 5)], 1, [], []⟩) -> LW Try.prog 0 0 (1 + (Try.f33.ntmps - 1)) none (loopAt Try.f33 0) s0 K := fun s0 f0 K hK => by
  refine zAv (lnTS l) (fun k => 3 - k) (fun k => k <= 3) 0 (aH _) f0 ?_
  intro k f hk
  refine zAs tbLB [0, 900003] 0 _ none mixed _ _ _ ?_
  refine ifK (fun h1 => ?_) (fun h1 => ?_)
  ·have h1 : k < 3 := by have := oT h1; omega
   refine ifK (fun _ => ?_) (fun h2 => ab h2 (by simp [inI]; omega))
   refine eI undef (eI [(0, some (.cells ((lentK l (k + 1)).map byV) 5))] (eI 0 (aI ?_ ?_)))
   ·refine zEp (b := 0) (off := 0 + (l.length + k) * 1) (sz := 1) (bytes := 1) (z := .int .u8 0) (v := byV (markB (l.length + k))) (C := (lentK l k).map byV) rfl ?_ ?_ rfl zIx rfl rfl (by rw [aT, zOs]; omega) ?_
    ·show Value.pointer _ = _
     rw [h1s]; rfl
    ·exact markB_v (l.length + k) (by omega)
    have := set_cells (lentK l k) (l.length + k) (markB (l.length + k)) (by rw [zOs]; omega)
    rw [<- lentK_set l k h1]
    exact this
   refine ⟨k + 1, h1, by show 3 - (k + 1) < 3 - k; omega, ?_⟩
   exact rcq [0] ⟨⟨_, rfl, zAh 8 rfl⟩, (sL rfl rfl), zAd rfl (by rw [wrapM (by omega) (by omega)]; omega), tv⟩ ⟨bpo (zAb _), tv⟩ .nil
  have h1 : k = 3 := by have h1 : ¬ ((l.length + k : Nat) : Int) < ((l.length + 3 : Nat) : Int) := oF h1; have hk : k <= 3 := hk; omega
  subst h1
  rw [<- lentK_all] at hK
  exact aI rfl (zAk (rcq [0] (d := 6) (d2 := 2) (lv := [(0, trB l), (3, .slice (some ⟨0, 0, none⟩) (l.length + 3) (l.length + 3))]) (bs := [(0, .cells ((lentK l 3).map byV) 5)]) (W := []) (m := 1) (df := []) ⟨⟨_, rfl, zAh 8 rfl⟩, (sL rfl rfl), tv⟩ ⟨bpo (zAb _), tv⟩ .nil) hK)
 by_cases hn0 : l.length = 0
 ·have hl0 : l = [] := List.eq_nil_of_length_eq_zero hn0
  subst hl0
  refine eI (.int .i64 (0 : Nat)) (eI [] (eI 0 (aI ?_ ?_)))
  ·exact aop_copy0 (e := 5) (news := []) (z := .int .u8 0) (sz := 1) (bytes := 1) rfl rfl ⟨by simp, fun y hy => by cases hy; rfl⟩ rfl (by kernel_rfl) zIx rfl
  refine loop _ ?_ _ (fun f => ?_)
  ·refine rcq [0] ⟨⟨_, rfl, zAh 8 rfl⟩, (sL rfl rfl), (sI rfl), tv⟩ ⟨bpo (zAb _), tv⟩ .nil
  refine aI (by kernel_rfl) ?_
  refine ⟨_, _, _, rfl, rfl⟩
 refine eI (.int .i64 l.length) (eI [(0, some (.cells ((lentK l 0).map byV) 5))] (eI 0 (aI ?_ ?_)))
 ·refine aop_copy (b := 0) (off := 0) (l := l.length + 3) (c := l.length + 3) (m := l.length) (news := l.map byV) (e := 5) (z := .int .u8 0) (sz := 1) (bytes := 1) (C := (List.replicate (l.length + 3) (0 : UInt8)).map byV) rfl rfl rfl (by kernel_rfl) zIx ?_ (by omega) hn0 (by rw [aT, aR]) rfl (by rw [aT, List.length_replicate]; omega) ?_ ?_
  ·exact srcB_tree l
  ·exact byV_one _
  rw [<- fin, List.take_zero, List.nil_append, List.map_append, <- List.map_drop, List.drop_replicate, show l.length + 3 - (0 + l.length * 1) = 3 by omega]
 refine loop _ ?_ _ (fun f => ?_)
 ·refine rcq [0] ⟨⟨_, rfl, zAh 8 rfl⟩, (sL rfl rfl), (sI rfl), tv⟩ ⟨bpo (zAb _), tv⟩ .nil
 refine ifK (fun g => ?_) (fun g => ?_)
 ·exact ab (aA g) (by unfold U; omega)
 refine aI (by simp only [inLH, bA, dT]; exact ⟨⟨⟨⟨by omega, by omega⟩, by omega⟩, bL (by omega)⟩, bL (by omega)⟩) ?_
 refine ⟨_, _, _, rfl, rfl⟩
noncomputable def zSw : Ct Try.prog 0 :=
 CtR.ct { f := 33, X := Bl, pre := fun l a _ _ => a = [trB l] /\ l.length <= 1000000000, out := fun l H n => .ret (.slice (some ⟨n, 0, none⟩) l.length (l.length + 3)) (H.set n (some (.cells ((lentL l).map byV) 5))) (n + 1) [],
          ok := fun l as0 H n ⟨h1, h2⟩ => by
           subst h1
           obtain ⟨r, hF, H', m, wr, rfl, h⟩ := lentT_fn l h2
           exact zNy (fun n => .slice (some ⟨n, 0, none⟩) l.length (l.length + 3)) [0] [((lentL l).map byV, 5)] hF (.cons _ _ _ _ (.one _ _ (.deep _ _ _ _ _ _ trivial)) .nil) (by decide) (fun x hx => by simp at hx; subst hx; decide) rfl
            (fun i b xs e hb hc => by
             match i, hb, hc with
             | 0, hb, hc => cases hb; cases hc; exact ⟨[], by rw [aF]; exact h, zAb _, .inl rfl⟩
             | i + 1, hb, hc => simp at hb) (fun n => .sl _ _ _ _ _ (zJe (i := 0) (by decide) rfl)),
          uniq := fun x x' a H m ⟨h1, _⟩ ⟨k1, _⟩ => by
           rw [h1] at k1
           simp only [aQ, and_true] at k1
           rw [show x = x' from zDg layBy k1] }
noncomputable def tbKt : Tb Try.prog 0 := tbOf mixed [inl_sameB, zSw]
theorem keptT_fn (l : Bl) (hn : l.length <= 1000000000) : ∃ r, FnS Try.prog 0 38 [.slice (some ⟨0, 0, none⟩) l.length (l.length + 3), trB l] (heap 1 [(0, .cells ((lentL l).map byV) 5)]) 1 r /\ ∃ H m wr, r = .ret (.bool true) H m wr /\ ∀ k ∈ wr, 1 <= k := by
 refine zAu mixed tbKt [0, 1] Try.func38 (c := bodyOf Try.f38) (by kernel_rfl) ?_
 refine aI (by kernel_rfl) ?_
 refine ifK (fun _ => ?_) (fun g => ab g (by simp))
 refine eI l (aI ⟨rfl, hn⟩ ?_)
 have hU : (l.length + 3).beq U = false := by cases hb : (l.length + 3).beq U with | false => rfl | true => exact ab (aA hb) (by unfold U; omega)
 have e3 : IntKind.i64.wrap ((l.length : Int) + 3) = ((l.length + 3 : Nat) : Int) := by rw [wrapM (by omega) (by omega)]; omega
 have eLL : (lentL l).length = l.length + 3 := lentL_len l
 refine aI hU ?_
 refine ifK (fun g => ab g (by rw [hU]; simp)) (fun _ => ?_)
 refine aI (by simp only [inLH, bA, dT]; (try dsimp only); exact ⟨⟨⟨⟨by omega, by omega⟩, by omega⟩, bL (by omega)⟩, bL (by omega)⟩) ?_
 refine ifK (fun g => ab g (by rw [hU]; simp)) (fun _ => ?_)
 refine aI (by simp only [inLH, bA, dT]; (try dsimp only); exact ⟨⟨⟨⟨by omega, by omega⟩, by omega⟩, bL (by omega)⟩, bL (by omega)⟩) ?_
 refine eI (lentL l) (aI (zUf (e := 5) (by kernel_rfl) (by kernel_rfl) (by rw [eLL]; first | rfl | (dsimp only; omega))) ?_)
 refine eI (lentL l) (aI (zUf (e := 5) (by kernel_rfl) (by kernel_rfl) (by rw [eLL, e3]; first | rfl | (dsimp only; omega))) ?_)
 exact ⟨_, _, _, congrArg (fun b => Res.ret (.bool b) _ _ _) (BEq.rfl), zAl rfl⟩
noncomputable def ct_keptT : Ct Try.prog 0 :=
 CtR.ct { f := 38, X := Bl × Nat, pre := fun x a H _ => a = [.slice (some ⟨x.2, 0, none⟩) x.1.length (x.1.length + 3), trB x.1] /\ H.get x.2 = some (.cells ((lentL x.1).map byV) 5) /\ x.1.length <= 1000000000, out := fun _ H n => .ret (.bool true) H n [],
          ok := fun ⟨l, b⟩ as0 H n ⟨h1, h2, h3⟩ => by
           subst h1
           obtain ⟨r, hF, H', k, wr, rfl, hw⟩ := keptT_fn l h3
           exact zMj [b] hF hw (zDq (by simp)) (ArgOK.of (.cons _ _ _ _ (.sl _ _ _ _ _ rfl) (.cons _ _ _ _ (zAh 8 rfl) .nil)))
            (zMh ⟨⟨b, _, rfl, h2, .same (zAb _)⟩, tv⟩) rfl,
          uniq := fun x x' a H m ⟨h1, _⟩ ⟨k1, _⟩ => rfl }
end
section
open Go Go.RowKit
end
section
open Go Go.RowKit
def lsC {α : Type} (L : Lay α) (l : List α) : Option (List Value × TypeId) := match l with
 | [] => none
 | x :: l => some ((x :: l).flatMap L.g, L.t)
def bq {α : Type} (k : Nat) (l : List α) : Nat := match l with
 | [] => 0
 | _ :: _ => k
theorem zHb {α : Type} {L : Lay α} {l : List α} {p : List Value × TypeId} (h : lsC L l = some p) (k : Nat) : l ≠ [] /\ p = (l.flatMap L.g, L.t) /\ bq k l = k := by
 cases l with
 | nil => cases h
 | cons x l => cases h; exact ⟨aZ _ _, rfl, rfl⟩
theorem zTp {α : Type} {σ : Nat -> Nat -> Prop} {k b : Nat} (l : List α) (h : σ (bq k l) b) : NwV σ (lsV k l) (lsV b l) := by
 cases l with
 | nil => exact .plain _ rfl
 | cons x l => exact .sl _ _ _ _ _ h
def mrV (m : MsT) (e p : Int) (n : Nat) : Value := .tuple #[.agg #[.int .i64 m.id, .int .i64 m.fl, lsV n m.q, lsV (n + 1) m.an, lsV (n + 2) m.ns, lsV (n + 3) m.ar], .agg #[.int .i64 e, .int .i64 p]]
def mrC (m : MsT) : List (Option (List Value × TypeId)) := [lsC layQ m.q, lsC layR m.an, lsC layR m.ns, lsC layR m.ar]
def mrOut (m : MsT) (e p : Int) (fine : Bool) (H : Tr AObj) (n : Nat) : Res := match fine with
 | true => .ret (mrV m e p n) (layO H n (mrC m)) (n + 4) []
 | false => .ret (.tuple #[.agg #[.int .i64 0, .int .i64 0, .slice none 0 0, .slice none 0 0, .slice none 0 0, .slice none 0 0], .agg #[.int .i64 e, .int .i64 p]]) H n []
theorem msQ_bad {B : Bl} {m : MsT} {e p : Int} (h : msQ B m e p) (he : e ≠ 0) : m = zM := (msg_fault h he).1
theorem zVg {B : Bl} {v : Value} {m : MsT} {e p : Int} {b : Bool} {H : Tr AObj} {n : Nat} (hv : LtL layBy H v B) (hB : B.length <= 1000000) (hq : msQ B m e p) (hb : b = decide (e = 0)) : CallOK Try.prog 0 34 [v] H n (mrOut m e p b H n) := by
 obtain ⟨r, hF, m', e', p', H', k, wr, hq', rfl, h2, h3, h4, h5, h0⟩ := zOt B hB
 obtain ⟨rfl, rfl, rfl⟩ := hq.det hq'
 subst hb
 by_cases he : e = 0
 ·rw [aX he]
  have h0 := h0 he
  refine zNz (fun n => mrV m e p n) [bq 2 m.q, bq 3 m.an, bq 4 m.ns, bq 5 m.ar] (mrC m) hF (.cons _ _ _ _ (LtL.frz (by kernel_rfl) hv) .nil) ?_ ?_ ?_ rfl ?_ (fun n => ?_)
  ·have key : ∀ (i : Nat) (p : List Value × TypeId), (mrC m)[i]? = some (some p) -> [bq 2 m.q, bq 3 m.an, bq 4 m.ns, bq 5 m.ar][i]? = some (i + 2) := fun i p h => by
    match i, h with
    | 0, h => exact congrArg some (zHb (Option.some.inj h) 2).2.2
    | 1, h => exact congrArg some (zHb (Option.some.inj h) 3).2.2
    | 2, h => exact congrArg some (zHb (Option.some.inj h) 4).2.2
    | 3, h => exact congrArg some (zHb (Option.some.inj h) 5).2.2
    | i + 4, h => simp [mrC] at h
   intro i j p q hi hj e
   rw [key i p hi, key j q hj] at e
   simp only [aP] at e
   omega
  ·intro x hx
   have : ∀ {α : Type} (k : Nat) (l : List α), k < JJ -> bq k l < JJ := fun k l hk => by cases l; exact (show (0 : Nat) < JJ by decide); exact hk
   simp only [aK, List.not_mem_nil, or_false] at hx
   rcases hx with rfl | rfl | rfl | rfl <;> exact this _ _ (by decide)
  ·intro x hx
   have : ∀ {α : Type} (L : Lay α) (k : Nat) (l : List α), (l ≠ [] -> H'.get k = lsO L l) -> H'.get (bq k l) ≠ none := fun L k l hk => by
    cases l with
    | nil => exact h0
    | cons x l => rw [show bq k (x :: l) = k from rfl, hk (aZ _ _)]; exact fun h => by cases h
   simp only [aK, List.not_mem_nil, or_false] at hx
   rcases hx with rfl | rfl | rfl | rfl
   ·exact this layQ 2 m.q h2
   ·exact this layR 3 m.an h3
   ·exact this layR 4 m.ns h4
   exact this layR 5 m.ar h5
  ·have one : ∀ {α : Type} (L : Lay α) (k : Nat) (l : List α) (b : Nat) (xs : List Value) (e : TypeId), (l ≠ [] -> H'.get k = lsO L l) -> some (bq k l) = some b -> some (lsC L l) = some (some (xs, e)) -> ∃ rest, H'.get b = some (.cells (xs ++ rest) e) /\ plainL xs = true /\ (rest = [] \/ Try.prog.underlying e ≠ some (.int .u8)) := fun L k l b xs e hg h1 h2 => by
    obtain ⟨hne, hp, hk⟩ := zHb (Option.some.inj h2) k
    cases hp
    rw [hk] at h1
    cases h1
    refine ⟨[], ?_, zAf L.g L.plain l, .inl rfl⟩
    rw [aF, hg hne]
    cases l with
    | nil => exact ab rfl hne
    | cons x l => rfl
   intro i b xs e hb hc
   match i, hb, hc with
   | 0, hb, hc => exact one layQ 2 m.q b xs e h2 hb hc
   | 1, hb, hc => exact one layR 3 m.an b xs e h3 hb hc
   | 2, hb, hc => exact one layR 4 m.ns b xs e h4 hb hc
   | 3, hb, hc => exact one layR 5 m.ar b xs e h5 hb hc
   | i + 4, hb, hc => simp at hb
  exact .tuple _ _ (.cons _ _ _ _ (.agg _ _ (.cons _ _ _ _ (.plain _ rfl) (.cons _ _ _ _ (.plain _ rfl) (.cons _ _ _ _ (zTp _ ⟨0, rfl, rfl⟩) (.cons _ _ _ _ (zTp _ ⟨1, rfl, rfl⟩) (.cons _ _ _ _ (zTp _ ⟨2, rfl, rfl⟩) (.cons _ _ _ _ (zTp _ ⟨3, rfl, rfl⟩) .nil))))))) (.cons _ _ _ _ (.plain _ rfl) .nil))
 rw [aY he]
 have := msQ_bad hq he
 subst this
 exact zGg hF (.cons _ _ _ _ (LtL.frz (by kernel_rfl) hv) .nil) (.one _ _ (.plain _ rfl))
noncomputable def zUu : Ct Try.prog 0 :=
 CtR.ct { f := 34, X := (Bl × Value) × (MsT × Int × Int) × Bool, pre := fun x a H _ => a = [x.1.2] /\ LtL layBy H x.1.2 x.1.1 /\ x.1.1.length <= 1000000 /\ msQ x.1.1 x.2.1.1 x.2.1.2.1 x.2.1.2.2 /\ x.2.2 = decide (x.2.1.2.1 = 0), out := fun x H n => mrOut x.2.1.1 x.2.1.2.1 x.2.1.2.2 x.2.2 H n,
          ok := fun x as0 H n ⟨h1, h2, h3, h4, h5⟩ => by
           subst h1
           have := zVg (n := n) h2 h3 h4 h5
           obtain ⟨⟨B, v⟩, ⟨m, e, p⟩, b⟩ := x
           cases b <;> exact this,
          uniq := fun x y a H n ⟨h1, h2, _, h4, h5⟩ ⟨k1, k2, _, k4, k5⟩ => by
           obtain ⟨⟨B, v⟩, ⟨m, e, p⟩, b⟩ := x
           obtain ⟨⟨B', v'⟩, ⟨m', e', p'⟩, b'⟩ := y
           rw [h1] at k1
           simp only [aQ, and_true] at k1
           have k1 : v = v' := k1
           subst k1
           have e1 : B = B' := LtL.uniq h2 k2
           subst e1
           have h4 : msQ B m e p := h4
           have k4 : msQ B m' e' p' := k4
           have h5 : b = decide (e = 0) := h5
           have k5 : b' = decide (e' = 0) := k5
           obtain ⟨rfl, rfl, rfl⟩ := h4.det k4
           rw [h5, k5] }
def dropL (H : Tr AObj) (ks : List Nat) : Tr AObj := setL H (ks.map fun k => (k, none))
theorem zGv : ∀ (ks : List Nat) (H : Tr AObj) (k : Nat), k ∈ ks -> (dropL H ks).get k = none
 | [], _, _, h => by cases h
 | j :: ks, H, k, h => by
  show (dropL (H.set j none) ks).get k = none
  by_cases hk : k ∈ ks
  ·exact zGv ks _ k hk
  have hj : k = j := (aK.1 h).resolve_right hk
  subst hj
  unfold dropL
  rw [zNl _ _ _ (by simpa using hk), Tr.get_set_self]
theorem zEs (ks : List Nat) (H : Tr AObj) (k : Nat) (h : k ∉ ks) : (dropL H ks).get k = H.get k := by
 unfold dropL
 exact zNl _ _ _ (by simpa using h)
def cellsE : Option AObj -> Option TypeId
 | some (.cells _ e) => some e
 | _ => none
theorem zQk {o : Option AObj} {e : TypeId} (h : cellsE o = some e) : ∃ cs, o = some (.cells cs e) := by
 cases o with
 | none => cases h
 | some o => cases o with
  | cells cs e' => cases h; exact ⟨cs, rfl⟩
  | _ => cases h
def JAt {α : Type} (L : Lay α) (H : Tr AObj) (c b : Nat) (l : List α) : Prop := match l with
 | [] => ∃ e, cellsE (H.get c) = some e /\ Try.prog.underlying e ≠ some (.int .u8)
 | x :: l => c = b /\ H.get b = some (.cells ((x :: l).flatMap L.g) L.t)
theorem JAt.own {α : Type} {L : Lay α} {H : Tr AObj} {c b : Nat} {l : List α} (h : JAt L H c b l) (A : List Nat) (k : Nat) (hA : A[k]? = some c) : ∃ e o1, H.get c = some o1 /\ (∀ E w, OR Try.prog E w c o1 -> OR Try.prog E w c (.cells (l.flatMap L.g) e)) /\ ¬ o1.isWin /\ ∀ H2 : Tr AObj, H2.get c ≠ none -> NV A H2 (lsV b l) (.slice (some ⟨k, 0, none⟩) l.length (capO l)) := by
 cases l with
 | nil =>
  obtain ⟨e, h1, h2⟩ := h
  obtain ⟨cs, h1⟩ := zQk h1
  exact ⟨e, _, h1, fun E w ⟨arr, fr, s1, s2, s3, s4, s5, s6, s7⟩ => ⟨arr, fr, s1, s2, s3, s4, aH _, .nil, s7.1, fun hu => ab hu h2⟩, fun h => h, fun H2 h => .nl k 0 _ hA h⟩
 | cons x l =>
  obtain ⟨rfl, h⟩ := h
  exact ⟨L.t, _, h, fun _ _ h => h, fun h => h, fun _ _ => .rv _ _ (.sl _ _ _ _ _ hA)⟩
theorem hr_wk {P : Program} {E : Env} {G G' : Gh} {w : World} (h : HR P E G w) (hs : ∀ k o, G' k = some o -> ∃ o1, G k = some o1 /\ (OR P E w k o1 -> OR P E w k o) /\ (o1.isWin -> o.isWin)) : HR P E G' w := by
 have hn : ∀ i, G' i ≠ none -> G i ≠ none := fun i hi => by
  cases hg : G' i with
  | none => exact ab hg hi
  | some o => obtain ⟨o1, h1, _⟩ := hs i o hg; rw [h1]; simp
 refine ⟨h.lt, fun k hk => ?_, fun k o ho => ?_, fun i j hi hj hr e => h.inj i j (hn i hi) (hn j hj) hr e, fun k o ho hr => ?_, h.fz, fun id hid hr => h.fn id (hn id hid) hr, h.pos⟩
 ·cases hg : G' k with
  | none => rfl
  | some o => exact ab (h.dom k hk) (hn k (by rw [hg]; simp))
 ·obtain ⟨o1, h1, h2, _⟩ := hs k o ho; exact h2 (h.obj k o1 h1)
 obtain ⟨o1, h1, _, h3⟩ := hs k o ho; exact h3 (h.ro k o1 h1 hr)
theorem zVi {m : MsT} {b1 b2 b3 b4 c1 c2 c3 c4 : Nat} {KS : List Nat} {H : Tr AObj} {n : Nat} (hcd : [c1, c2, c3, c4].Nodup) (hin : ∀ c ∈ [c1, c2, c3, c4], c ∈ KS) (h1 : JAt layQ H c1 b1 m.q) (h2 : JAt layR H c2 b2 m.an) (h3 : JAt layR H c3 b3 m.ns) (h4 : JAt layR H c4 b4 m.ar) (hf : m.fit 1000000) :
  CallOK Try.prog 0 27 [.agg #[.int .i64 m.id, .int .i64 m.fl, lsV b1 m.q, lsV b2 m.an, lsV b3 m.ns, lsV b4 m.ar]] H n (.ret (.tuple #[]) (dropL H KS) n KS) := by
 obtain ⟨e1, o1, g1, w1, n1, v1⟩ := h1.own [c1, c2, c3, c4] 0 rfl
 obtain ⟨e2, o2, g2, w2, n2, v2⟩ := h2.own [c1, c2, c3, c4] 1 rfl
 obtain ⟨e3, o3, g3, w3, n3, v3⟩ := h3.own [c1, c2, c3, c4] 2 rfl
 obtain ⟨e4, o4, g4, w4, n4, v4⟩ := h4.own [c1, c2, c3, c4] 3 rfl
 obtain ⟨H2, hH2⟩ : ∃ H2, H2 = setL H [(c1, some (.cells (m.q.flatMap layQ.g) e1)), (c2, some (.cells (m.an.flatMap layR.g) e2)), (c3, some (.cells (m.ns.flatMap layR.g) e3)), (c4, some (.cells (m.ar.flatMap layR.g) e4))] := ⟨_, rfl⟩
 simp only [List.nodup_cons, aK, List.not_mem_nil, or_false, not_or, List.nodup_nil, and_true, not_false_eq_true] at hcd
 obtain ⟨⟨x12, x13, x14⟩, ⟨x23, x24⟩, x34⟩ := hcd
 have hcd : [c1, c2, c3, c4].Nodup := by
  simp only [List.nodup_cons, aK, List.not_mem_nil, or_false, not_or, List.nodup_nil, and_true, not_false_eq_true]
  exact ⟨⟨x12, x13, x14⟩, ⟨x23, x24⟩, x34⟩
 have s1 : H2.get c1 = some (.cells (m.q.flatMap layQ.g) e1) := by
  subst hH2
  show ((((H.set c1 _).set c2 _).set c3 _).set c4 _).get c1 = _
  rw [Tr.get_set_ne _ _ x14, Tr.get_set_ne _ _ x13, Tr.get_set_ne _ _ x12, Tr.get_set_self]
 have s2 : H2.get c2 = some (.cells (m.an.flatMap layR.g) e2) := by
  subst hH2
  show ((((H.set c1 _).set c2 _).set c3 _).set c4 _).get c2 = _
  rw [Tr.get_set_ne _ _ x24, Tr.get_set_ne _ _ x23, Tr.get_set_self]
 have s3 : H2.get c3 = some (.cells (m.ns.flatMap layR.g) e3) := by
  subst hH2
  show ((((H.set c1 _).set c2 _).set c3 _).set c4 _).get c3 = _
  rw [Tr.get_set_ne _ _ x34, Tr.get_set_self]
 have s4 : H2.get c4 = some (.cells (m.ar.flatMap layR.g) e4) := by
  subst hH2
  show ((((H.set c1 _).set c2 _).set c3 _).set c4 _).get c4 = _
  rw [Tr.get_set_self]
 have wk : ∀ k o, H2.get k = some o -> ∃ o1, H.get k = some o1 /\ (∀ E w, OR Try.prog E w k o1 -> OR Try.prog E w k o) /\ (o1.isWin -> o.isWin) := fun k o hk => by
  rw [hH2] at hk
  rcases zUc _ H k o hk with h | ⟨_, h⟩
  ·simp only [aK, List.not_mem_nil, or_false, Prod.mk.injEq, aP] at h
   rcases h with ⟨rfl, rfl⟩ | ⟨rfl, rfl⟩ | ⟨rfl, rfl⟩ | ⟨rfl, rfl⟩
   ·exact ⟨_, g1, w1, fun h => ab h n1⟩
   ·exact ⟨_, g2, w2, fun h => ab h n2⟩
   ·exact ⟨_, g3, w3, fun h => ab h n3⟩
   exact ⟨_, g4, w4, fun h => ab h n4⟩
  exact ⟨o, h, fun _ _ h => h, fun h => h⟩
 have heq : (dropL H2 KS).get = (dropL H KS).get := funext fun k => by
  by_cases hk : k ∈ KS
  ·rw [zGv _ _ _ hk, zGv _ _ _ hk]
  rw [zEs _ _ _ hk, zEs _ _ _ hk, hH2, zNl]
  intro hm
  simp only [List.map_cons, List.map_nil] at hm
  exact hk (hin k hm)
 have grw : ∀ H' : Tr AObj, Grw n n H' (dropL H' KS) KS := fun H' => ⟨aJ _, fun k _ hk => zEs _ _ _ hk, fun h0 k hk => by
  by_cases hm : k ∈ KS
  ·exact zGv _ _ _ hm
  rw [zEs _ _ _ hm]; exact h0 k hk⟩
 obtain ⟨f1, f2, f3, f4⟩ := hf
 obtain ⟨r, hF, H', k, wr, rfl, _⟩ := overM4_fn m.id m.fl m.q m.an m.ns m.ar (capO m.q) (capO m.an) (capO m.ns) (capO m.ar) e1 e2 e3 e4 f1 f2 f3 f4
 have base : CallOK Try.prog 0 27 [.agg #[.int .i64 m.id, .int .i64 m.fl, lsV b1 m.q, lsV b2 m.an, lsV b3 m.ns, lsV b4 m.ar]] H2 n (.ret (.tuple #[]) (dropL H2 KS) n KS) := by
  refine zDo (A := [c1, c2, c3, c4]) (B := []) rfl hF (zDq hcd) (ArgOK.nl ?_) (zMh ⟨⟨c1, _, rfl, s1, .same (plQ _)⟩, ⟨c2, _, rfl, s2, .same (plR _)⟩, ⟨c3, _, rfl, s3, .same (plR _)⟩, ⟨c4, _, rfl, s4, .same (plR _)⟩, tv⟩) List.nodup_nil (fun x hx => by cases hx) (fun x hx => by cases hx) (.ret _ _ _ _ _ _ _ _ (.tuple _ _ .nil)) rfl (grw H2) (fun k hk hl => ⟨fun o ho => ?_, fun j hj => ⟨?_, hin j (List.mem_of_getElem? hj)⟩⟩) (fun j o h => ?_)
  ·exact .cons _ _ _ _ (.agg _ _ (.cons _ _ _ _ (.rv _ _ (.int _ _)) (.cons _ _ _ _ (.rv _ _ (.int _ _)) (.cons _ _ _ _ (v1 H2 (by rw [s1]; simp)) (.cons _ _ _ _ (v2 H2 (by rw [s2]; simp)) (.cons _ _ _ _ (v3 H2 (by rw [s3]; simp)) (.cons _ _ _ _ (v4 H2 (by rw [s4]; simp)) .nil))))))) .nil
  ·have hl : k < 4 := hl
   rcases k with _ | _ | _ | _ | k
   ·have hk : some (AObj.cells _ _) = some o := ho
    cases hk; exact fun h => h
   ·have hk : some (AObj.cells _ _) = some o := ho
    cases hk; exact fun h => h
   ·have hk : some (AObj.cells _ _) = some o := ho
    cases hk; exact fun h => h
   ·have hk : some (AObj.cells _ _) = some o := ho
    cases hk; exact fun h => h
   omega
  ·have hm := List.mem_of_getElem? hj
   simp only [aK, List.not_mem_nil, or_false] at hm
   rcases hm with rfl | rfl | rfl | rfl
   ·exact ⟨_, s1, fun h => h⟩
   ·exact ⟨_, s2, fun h => h⟩
   ·exact ⟨_, s3, fun h => h⟩
   exact ⟨_, s4, fun h => h⟩
  have h : (dropL H2 KS).get j = some o := h
  by_cases hm : j ∈ KS
  ·rw [zGv _ _ _ hm] at h; cases h
  rw [zEs _ _ _ hm] at h
  exact .inl ⟨h, fun k hk => ab (hin j (List.mem_of_getElem? hk)) hm⟩
 refine ⟨grw H, fun E w args' hgl hva hE hlow hfree => ?_⟩
 have hE2 : HR Try.prog E H2.get w := hr_wk hE fun k o hk => by obtain ⟨o1, a1, a2, a3⟩ := wk k o hk; exact ⟨o1, a1, a2 E w, a3⟩
 have hl2 : Low n H2 := fun j hj => by
  cases hg : H2.get j with
  | none => rfl
  | some o => obtain ⟨o1, a1, _⟩ := wk j o hg; rw [hlow j hj] at a1; cases a1
 refine (base.2 E w args' hgl hva hE2 hl2 hfree).mono fun e w' he => ?_
 obtain ⟨E', v', q1, q2, q3, q4, q5, q6⟩ := he
 exact ⟨E', v', q1, q2, q3, q4, heq ▸ q5, q6⟩
noncomputable def ct_overJ (b1 b2 b3 b4 : Nat) (KS : List Nat) : Ct Try.prog 0 :=
 CtR.ct { f := 27, X := MsT × Nat × Nat × Nat × Nat, pre := fun x a H _ => a = [.agg #[.int .i64 x.1.id, .int .i64 x.1.fl, lsV b1 x.1.q, lsV b2 x.1.an, lsV b3 x.1.ns, lsV b4 x.1.ar]] /\ ([x.2.1, x.2.2.1, x.2.2.2.1, x.2.2.2.2].Nodup /\ ∀ c ∈ [x.2.1, x.2.2.1, x.2.2.2.1, x.2.2.2.2], c ∈ KS) /\ (JAt layQ H x.2.1 b1 x.1.q /\ JAt layR H x.2.2.1 b2 x.1.an /\ JAt layR H x.2.2.2.1 b3 x.1.ns /\ JAt layR H x.2.2.2.2 b4 x.1.ar) /\ x.1.fit 1000000, out := fun _ H n => .ret (.tuple #[]) (dropL H KS) n KS,
          ok := fun ⟨m, c1, c2, c3, c4⟩ as0 H n ⟨h1, ⟨hd, hi⟩, ⟨a1, a2, a3, a4⟩, h3⟩ => by subst h1; exact zVi hd hi a1 a2 a3 a4 h3,
          uniq := fun _ _ _ _ _ _ _ => rfl }
def nilM8 : List Value -> Bool
 | [.agg x] => (match x.toList with | [_, _, .slice none _ _, .slice none _ _, .slice none _ _, .slice none _ _] => true | _ => false)
 | _ => false
theorem zBy : Try.prog.underlying 48 ≠ some (.int .u8) := by
 have : (match Try.prog.underlying 48 with | some (.int .u8) => false | _ => true) = true := by kernel_rfl
 intro e; rw [e] at this; cases this
noncomputable def ct_overK (b1 b2 b3 b4 : Nat) (KS : List Nat) : Ct Try.prog 0 := Ct.alt nilM8 (Ct.inl (tbOf mixed []) mixed [] 27 Try.f27 Try.func27 (bodyOf Try.f27) (by kernel_rfl)) (ct_overJ b1 b2 b3 b4 KS) rfl
end
section
open Go Go.Joins Go.ChangeShapes Go.WideShapes Go.RowKit Go.Deep
section
variable {H : Type} {enc : TypeId × Value -> H} {w : World} {base : Nat} {spare : Nat -> Bool} {held : Bool}
end
end
section
open Go Go.RowKit
end
end Go.Proofs.Ytcggcoijhdagnaa
