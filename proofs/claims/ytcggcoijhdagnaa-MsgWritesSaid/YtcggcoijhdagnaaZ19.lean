/- DERIVED. Parts. -/
import Derived.LoopIn
import Derived.Test.YtcggcoijhdagnaaZ12
import Derived.Test.YtcggcoijhdagnaaZ13
import Derived.Test.YtcggcoijhdagnaaZ15
import Derived.Test.YtcggcoijhdagnaaZ17
import Derived.Test.YtcggcoijhdagnaaZ18
set_option maxRecDepth 1000000
set_option maxHeartbeats 32000000
namespace Go.Proofs.Ytcggcoijhdagnaa
section
open Go Go.RowKit
def MsT.items (m : MsT) : List MwI := m.q.map .inl ++ (m.an.map .inr ++ (m.ns.map .inr ++ m.ar.map .inr))
def MsT.head (m : MsT) : Bl := ((((by2 m.id.toNat ++ by2 m.fl.toNat) ++ by2 m.q.length) ++ by2 m.an.length) ++ by2 m.ns.length) ++ by2 m.ar.length
def MsT.wr (m : MsT) : Int × Bl := if m.chk ≠ 0 then (m.chk, []) else match mwF ⟨m.head, [], 0⟩ m.items with
 | none => (3, [])
 | some s => (0, s.out)
noncomputable def inl_newM : Ct Try.prog 0 := Ct.inl (tbOf mixed []) mixed [] 44 Try.f44 Try.func44 (bodyOf Try.f44) (by kernel_rfl)
noncomputable def tbMw3 : Tb Try.prog 0 := tbOf mixed [zKq, zNy, inl_newM, zQo, ct_ask, ct_recw]
def mwN0 (e : Int) (f : Nat -> Option Value) : Fs := ⟨slots 7 [(2, pt 0), (3, pt 1)] f, heap 2 [(0, .cells [.slice none 0 0] 28), (1, .cells [.int .i64 e] 29)], 2, [], [.call 42 [pt 1, pt 0] []]⟩
def mwO0 (e : Int) (u : UInt8) (us : Bl) (f : Nat -> Option Value) : Fs := ⟨slots 7 [(2, pt 0), (3, pt 1)] f, heap 2 [(0, .cells [sq 2 (us.length + 1) U] 28), (1, .cells [.int .i64 e] 29), (2, .cells ((u :: us).map byV) 5)], 3, [], [.call 42 [pt 1, pt 0] []]⟩
theorem zDq {nt a b c : Nat} {e : Int} {u : UInt8} {us : Bl} {s : Fs} {K : Fs -> Prop} (hd : Nat.ble (nt + 1) (2 ^ 7) = true) (hn : [a, b, c].Nodup) (hL : ∀ x ∈ [a, b, c], 0 <= x /\ x < JJ) (ha : sgO 0 [a, b, c] a 0) (hb : sgO 0 [a, b, c] b 1) (hc : sgO 0 [a, b, c] c 2)
  (h2 : s.T.get 2 = some (pt a)) (h3 : s.T.get 3 = some (pt b)) (k0 : s.H.get (un 0 [a, b, c] 0) = some (.cells [sq c (us.length + 1) U] 28)) (k1 : s.H.get (un 0 [a, b, c] 1) = some (.cells [.int .i64 e] 29)) (k2 : s.H.get (un 0 [a, b, c] 2) = some (.cells ((u :: us).map byV) 5))
  (hD : s.df = [.call 42 [pt b, pt a] []]) (hs : Nat.ble 0 s.n = true) (k : ∀ f, K (mwO0 e u us f)) : ∃ s2, RcM Try.prog 0 0 nt none s s2 /\ K s2 :=
 zAg (zAz [a, b, c] (d := 7) (d2 := 2) (lv := [(2, pt 0), (3, pt 1)]) (bs := [(0, .cells [sq 2 (us.length + 1) U] 28), (1, .cells [.int .i64 e] 29), (2, .cells ((u :: us).map byV) 5)]) (W := []) (m := 3) (df := [.call 42 [pt 1, pt 0] []]) hd hs rfl (fun l e => by cases e) hn hL rfl rfl (fun k _ h => ab h (Nat.not_lt_zero _))
  ⟨⟨_, h2, .ptr _ _ _ ha⟩, ⟨_, h3, .ptr _ _ _ hb⟩, tv⟩ ⟨⟨by decide, _, k0, zBe hc⟩, ⟨by decide, _, k1, .same rfl⟩, ⟨by decide, _, k2, .same (zAa _)⟩, tv⟩ (by rw [hD]; exact .fn _ _ _ _ _ _ _ (.cons _ _ _ _ (.ptr _ _ _ hb) (.cons _ _ _ _ (.ptr _ _ _ ha) .nil)) .nil .nil)) k
theorem mw_e1a (n : Nat) (R : Res -> Prop) (f : Nat -> Option Value) : fnK tbMw3 Try.f12 R .ret (mwN0 (.ofNat (n + 1)) f) = R (.ret (.tuple #[.slice none 0 0, .int .i64 (.ofNat (n + 1))]) (resH (endR tbMw3 Try.f12 .ret (mwN0 (.ofNat (n + 1)) f))) (resN (endR tbMw3 Try.f12 .ret (mwN0 (.ofNat (n + 1)) f))) [0]) := by kernel_rfl
theorem mw_e1b (n : Nat) (R : Res -> Prop) (f : Nat -> Option Value) : fnK tbMw3 Try.f12 R .ret (mwN0 (.negSucc n) f) = R (.ret (.tuple #[.slice none 0 0, .int .i64 (.negSucc n)]) (resH (endR tbMw3 Try.f12 .ret (mwN0 (.negSucc n) f))) (resN (endR tbMw3 Try.f12 .ret (mwN0 (.negSucc n) f))) [0]) := by kernel_rfl
theorem mw_e1 (e : Int) (he : e ≠ 0) (R : Res -> Prop) (f : Nat -> Option Value) : fnK tbMw3 Try.f12 R .ret (mwN0 e f) = R (.ret (.tuple #[.slice none 0 0, .int .i64 e]) (resH (endR tbMw3 Try.f12 .ret (mwN0 e f))) (resN (endR tbMw3 Try.f12 .ret (mwN0 e f))) [0]) :=
 match e, he with
 | .ofNat 0, h => ab rfl h
 | .ofNat (n + 1), _ => mw_e1a n R f
 | .negSucc n, _ => mw_e1b n R f
theorem zQt (u : UInt8) (us : Bl) (R : Res -> Prop) (f : Nat -> Option Value) : fnK tbMw3 Try.f12 R .ret (mwO0 3 u us f) = R (.ret (.tuple #[.slice none 0 0, .int .i64 3]) (resH (endR tbMw3 Try.f12 .ret (mwO0 3 u us f))) (resN (endR tbMw3 Try.f12 .ret (mwO0 3 u us f))) [0]) := by kernel_rfl
theorem mw_e3 (u : UInt8) (us : Bl) (R : Res -> Prop) (f : Nat -> Option Value) : fnK tbMw3 Try.f12 R .ret (mwO0 0 u us f) = R (.ret (.tuple #[sq 2 (us.length + 1) U, .int .i64 0]) (resH (endR tbMw3 Try.f12 .ret (mwO0 0 u us f))) (resN (endR tbMw3 Try.f12 .ret (mwO0 0 u us f))) []) := by kernel_rfl
theorem mw_g3 (u : UInt8) (us : Bl) (f : Nat -> Option Value) : (resH (endR tbMw3 Try.f12 .ret (mwO0 0 u us f))).get 2 = some (.cells ((u :: us).map byV) 5) := by kernel_rfl
theorem zVa {m : MsT} (h : m.chk = 0) : (0 <= m.id /\ m.id <= 65535) /\ (0 <= m.fl /\ m.fl <= 65535) /\ m.q.length <= 65535 /\ m.an.length <= 65535 /\ m.ns.length <= 65535 /\ m.ar.length <= 65535 := by
 unfold MsT.chk msC at h
 split at h
 ·cases h
 rename_i h1
 split at h
 ·cases h
 rename_i h2
 rw [Bool.not_eq_false, bA] at h1
 rw [Bool.not_eq_false, bA, bA, bA] at h2
 unfold numB at h1 h2
 simp only [dT] at h1 h2
 omega
abbrev MwP := Nat × UInt8 × Bl × List (Bl × Nat) × Nat × Nat
def mwS1 (m : MsT) (p : MwP) (f : Nat -> Option Value) : Fs := ⟨slots 7 [(1, pt 0), (2, pt 1), (3, pt 2), (9, pt 4), (59, trQ m.q), (60, .int .i64 (m.q.length : Nat)), (61, .int .i64 (p.1 : Nat))] f, heap 3 [(0, .cells [.int .i64 m.id, .int .i64 m.fl, trQ m.q, trR m.an, trR m.ns, trR m.ar] 25), (1, .cells [sq 3 (p.2.2.1.length + 1) U] 28), (2, .cells [.int .i64 0] 29), (3, .cells ((p.2.1 :: p.2.2.1).map byV) 5), (4, .cells [.map (some 5), .int .i64 (p.2.2.2.2.1 : Int)] 98), (5, .map (encT p.2.2.2.1) p.2.2.2.2.2)], 6, [], [.call 42 [pt 2, pt 1] []]⟩
def mwSt (p : MwP) : MwS := ⟨p.2.1 :: p.2.2.1, p.2.2.2.1, p.2.2.2.2.1⟩
def mwHd (m : MsT) : UInt8 × Bl := (hi8 m.id.toNat, [lo8 m.id.toNat, hi8 m.fl.toNat, lo8 m.fl.toNat, hi8 m.q.length, lo8 m.q.length, hi8 m.an.length, lo8 m.an.length, hi8 m.ns.length, lo8 m.ns.length, hi8 m.ar.length, lo8 m.ar.length])
def mwS2 (m : MsT) (k : Int) (yl : List RcX) (p : MwP) (f : Nat -> Option Value) : Fs := ⟨slots 7 [(2, pt 1), (3, pt 2), (9, pt 4), (80, .agg #[.pointer (some ⟨0, 3, none⟩), .pointer (some ⟨0, 4, none⟩), .pointer (some ⟨0, 5, none⟩)]), (81, .int .i64 k), (86, trR yl), (87, .int .i64 (yl.length : Nat)), (88, .int .i64 (p.1 : Nat))] f, heap 3 [(0, .cells [.int .i64 m.id, .int .i64 m.fl, trQ m.q, trR m.an, trR m.ns, trR m.ar] 25), (1, .cells [sq 3 (p.2.2.1.length + 1) U] 28), (2, .cells [.int .i64 0] 29), (3, .cells ((p.2.1 :: p.2.2.1).map byV) 5), (4, .cells [.map (some 5), .int .i64 (p.2.2.2.2.1 : Int)] 98), (5, .map (encT p.2.2.2.1) p.2.2.2.2.2)], 6, [], [.call 42 [pt 2, pt 1] []]⟩
theorem zVb (m : MsT) : mwInv ⟨m.head, [], 0⟩ m.items 0 ⟨(mwHd m).1 :: (mwHd m).2, [], 0⟩ :=
 ⟨Nat.le_add_left _ _, aJ _, aJ _, ⟨List.nodup_nil, fun _ h => by cases h⟩, .inl ⟨(by decide : 12 <= 65535), rfl⟩⟩
theorem items_q {m : MsT} {i : Nat} (h : i < m.q.length) (hI : i < m.items.length) : m.items[i] = .inl m.q[i] := by
 have e : m.items[i]? = some (.inl m.q[i]) := by
  unfold MsT.items
  rw [List.getElem?_append_left (by simpa using h), List.getElem?_map, gG h]; rfl
 exact Option.some.inj ((gG hI).symm.trans e)
theorem zIq {all pre post : List MwI} {l : List RcX} (e : all = pre ++ (l.map .inr ++ post)) {i : Nat} (h : i < l.length) {k : Nat} (hk : k = pre.length + i) (hI : k < all.length) : all[k] = .inr l[i] := by
 have e : all[k]? = some (.inr l[i]) := by
  rw [e, hk, List.getElem?_append_right (Nat.le_add_right _ _), Nat.add_sub_cancel_left, List.getElem?_append_left (by simpa using h), List.getElem?_map, gG h]; rfl
 exact Option.some.inj ((gG hI).symm.trans e)
theorem apC {sz by' la lb t : Nat} {C N : List Value} (h1 : sz = 1) (h2 : by' = 1) (hC : C.length = la) (hN : N.length = lb) (ho : oneL N = true) (h3 : la + lb <= 1000000000) (h4 : 0 < lb) : (Nat.beq 0 0 && Nat.beq t t && (la * sz).ble C.length && oneL N && decide ((la + lb) * by' <= 140737488355328) && decide (la + lb <= 9223372036854775807) && C.length.blt (0 + la * sz + N.length)) = true := by
 subst h1; subst h2
 simp only [bA, dT]
 exact ⟨⟨⟨⟨⟨⟨rfl, by simp⟩, bL (by omega)⟩, ho⟩, by omega⟩, by omega⟩, bL (by omega)⟩
theorem zJt (u : UInt8) (us : Bl) (v : UInt8) (vs : Bl) : (List.take ((us.length + 1) * 1) (byV u :: us.map byV)) ++ (v :: vs).map byV = (u :: (us ++ v :: vs)).map byV := by rw [aR, aD (by simp)]; simp
theorem zNq {σ : Nat -> Nat -> Prop} {b c : Nat} {t : TypeId} (h : σ b c) (us : Bl) (v : UInt8) (vs : Bl) : RO Try.prog σ (.cells [sq b (us.length + 1 + (v :: vs).length) U] t) (.cells [sq c ((us ++ v :: vs).length + 1) U] t) := by
 rw [show us.length + 1 + (v :: vs).length = (us ++ v :: vs).length + 1 by simp; omega]; exact zBe h
theorem zBk {m : MsT} (h0 : m.chk = 0) (h : mwF ⟨m.head, [], 0⟩ m.items = none) : m.wr = (3, []) := by
 unfold MsT.wr; rw [if_neg (aL h0), h]
theorem wr_some {m : MsT} {s : MwS} (h0 : m.chk = 0) (h : mwF ⟨m.head, [], 0⟩ m.items = some s) : m.wr = (0, s.out) := by
 unfold MsT.wr; rw [if_neg (aL h0), h]
theorem zXa (m : MsT) (hm : m.okM) (hk : m.fit 1000) : ∃ r, FnS Try.prog 0 12 [m.v] .e 0 r /\ ∃ H k wr b, r = .ret (.tuple #[ovN b m.wr.2, .int .i64 m.wr.1]) H k wr /\ (m.wr.2 ≠ [] -> b < JJ /\ H.get b = some (.cells (m.wr.2.map byV) 5)) := by
 have h1s : (Try.prog.types[5]).size = 1 := by kernel_rfl
 have hby : (Try.prog.types[5]).bytes = 1 := by kernel_rfl
 refine fn_sxR mixed tbMw3 [] Try.func12 (c := bodyOf Try.f12) (by kernel_rfl) ?_
 refine eI m.lt (aI ⟨rfl, m.lt_at _, hm⟩ ?_)
 refine ifK (fun g => ?_) (fun g => ?_)
 ·have g : m.chk ≠ 0 := by have g : (m.chk != 0) = true := g; simpa using g
  refine aI rfl (zAg (rcq [1, 2] (d := 7) (d2 := 2) (lv := [(2, pt 0), (3, pt 1)]) (bs := [(0, .cells [.slice none 0 0] 28), (1, .cells [.int .i64 m.chk] 29)]) (W := []) (m := 2) (df := [.call 42 [pt 1, pt 0] []]) ⟨(sP rfl rfl), (sP rfl rfl), tv⟩ ⟨bpo rfl, bpo rfl, tv⟩ (.fn _ _ _ _ _ _ _ (.cons _ _ _ _ (.ptr _ _ _ rfl) (.cons _ _ _ _ (.ptr _ _ _ rfl) .nil)) .nil .nil)) (fun f => ?_))
  refine Eq.mpr (mw_e1 m.chk g _ f) ?_
  have e : m.wr = (m.chk, []) := by unfold MsT.wr; rw [if_pos g]
  rw [e]
  exact ⟨_, _, _, 0, rfl, fun h => ab rfl h⟩
 have g0 : m.chk = 0 := by have g : (m.chk != 0) = false := g; simpa using g
 refine LW.round ?_
 refine zAm tbMw3 [] 0 _ none mixed _ _ _ ?_
 obtain ⟨c1, c2, c3, c4, c5, c6⟩ := zVa g0
 refine eI m.id.toNat (aI ⟨by rw [Int.toNat_of_nonneg c1.1], by omega⟩ ?_)
 refine LW.round ?_
 refine zAm tbMw3 [] 0 _ none mixed _ _ _ ?_
 refine eI m.fl.toNat (aI ⟨by rw [Int.toNat_of_nonneg c2.1], by omega⟩ ?_)
 refine aI (by kernel_rfl) ?_
 refine LW.round ?_
 refine zAm tbMw3 [] 0 _ none mixed _ _ _ ?_
 refine eI m.q.length (aI ⟨rfl, by omega⟩ ?_)
 refine aI (by kernel_rfl) ?_
 refine LW.round ?_
 refine zAm tbMw3 [] 0 _ none mixed _ _ _ ?_
 refine eI m.an.length (aI ⟨rfl, by omega⟩ ?_)
 refine aI (by kernel_rfl) ?_
 refine LW.round ?_
 refine zAm tbMw3 [] 0 _ none mixed _ _ _ ?_
 refine eI m.ns.length (aI ⟨rfl, by omega⟩ ?_)
 refine aI (by kernel_rfl) ?_
 refine LW.round ?_
 refine zAm tbMw3 [] 0 _ none mixed _ _ _ ?_
 refine eI m.ar.length (aI ⟨rfl, by omega⟩ ?_)
 refine aI (by kernel_rfl) ?_
 refine LW.round ?_
 refine zAm tbMw3 [] 0 _ none mixed _ _ _ ?_
 refine zAn (mwS1 m) (fun p => m.q.length - p.1) (fun p => p.1 <= m.q.length /\ mwInv ⟨m.head, [], 0⟩ m.items p.1 (mwSt p)) (0, (mwHd m).1, (mwHd m).2, [], 0, 0) ⟨aH _, zVb m⟩ ?_ ?_
 ·exact rcq [0, 1, 2, 15, 17, 16] ⟨(sP rfl rfl), (sP rfl rfl), (sP rfl rfl), (sP rfl rfl), ⟨_, rfl, zAs 8 rfl⟩, (sI rfl), (sI rfl), tv⟩ ⟨⟨by decide, _, rfl, RO.clos rfl⟩, ⟨by decide, _, rfl, zBe rfl⟩, bpo rfl, ⟨by decide, _, rfl, zAv rfl (zAa _)⟩, ⟨by decide, _, rfl, zBb 16 5 (by exact rfl) 0⟩, ⟨by decide, _, rfl, by show RO _ _ (.map (encT []) 0) (.map (encT []) 0); exact RO.map _ _ _ (zAh _)⟩, tv⟩ (.fn _ _ _ _ _ _ _ (.cons _ _ _ _ (.ptr _ _ _ rfl) (.cons _ _ _ _ (.ptr _ _ _ rfl) .nil)) .nil .nil)
 rintro ⟨i, u, us, T, en, ck⟩ f ⟨hi, hinv⟩
 have hi : i <= m.q.length := hi
 have hinv : mwInv ⟨m.head, [], 0⟩ m.items i ⟨u :: us, T, en⟩ := hinv
 refine zAm tbMw3 [7] 0 _ none mixed _ _ _ ?_
 have hI : m.items.length = m.q.length + (m.an.length + (m.ns.length + m.ar.length)) := by unfold MsT.items; simp
 obtain ⟨k1, k2, k3, k4⟩ := hk
 refine ifK (fun h1 => ?_) (fun h1 => ?_)
 ·have h1 : i < m.q.length := by have h1 : ((i : Nat) : Int) < (m.q.length : Int) := oT h1; omega
  have hiI : i < m.items.length := by omega
  have hit : m.items[i] = .inl m.q[i] := items_q h1 hiI
  refine ifK (fun _ => ?_) (fun h2 => ab h2 (by simp [inI]; omega))
  refine eI m.q[i].n (eI m.q[i].t (eI m.q[i].c (aI (zBm layQ h1) ?_)))
  obtain ⟨R, hR⟩ : ∃ R, mwD ⟨u :: us, T, en⟩ m.items[i] = R := ⟨_, rfl⟩
  have hD : askD en T ((us.length + 1 : Nat) : Int) m.q[i].n m.q[i].t m.q[i].c = R := by rw [<- hR, hit]; rfl
  obtain ⟨r1, r2, r3, r4, r5⟩ := zFb _ _ hR
  have hsh := hm.1 _ (aV h1)
  obtain ⟨e, o, F, en'⟩ := R
  by_cases he : e = 0
  ·subst he
   obtain ⟨v, vs, rfl⟩ : ∃ v vs, o = v :: vs := by
    cases o with
    | nil => exact ab rfl (r3 rfl)
    | cons v vs => exact ⟨v, vs, rfl⟩
   refine eI (⟨4, 5, en, T, ck, ⟨((us.length + 1 : Nat) : Int), m.q[i].n, m.q[i].t, m.q[i].c⟩, 0, v :: vs, F, en'⟩ : PkY AskY) (aI ⟨rfl, (show Tr.get _ 4 = some (AObj.cells [.map (some 5), .int .i64 (en : Int)] _) from rfl), (show Tr.get _ 5 = some (AObj.map (encT T) ck) from rfl), hinv.gd, hsh, hD⟩ ?_)
   refine eI ((v :: vs).map byV) (aI (zAi (l := v :: vs) h1s rfl) ?_)
   have hul : us.length + 1 <= 12 + 70000 * i := hinv.hi
   have hvl : vs.length + 1 <= 70000 := r1
   refine aI (apC h1s hby (by simp) (by simp) (oneB _) (by simp; omega) (by simp)) ?_
   refine ⟨(i + 1, u, us ++ v :: vs, T ++ F, en', ck + F.length), ⟨h1, hinv.next hiI hR rfl⟩, by show m.q.length - (i + 1) < m.q.length - i; omega, ?_⟩
   exact rcq [0, 1, 2, 8, 4, 5] ⟨(sP rfl rfl), (sP rfl rfl), (sP rfl rfl), (sP rfl rfl), ⟨_, rfl, zAs 8 rfl⟩, (sI rfl), zAb rfl (by rw [wrapN (by omega) (by omega)]; omega), tv⟩ ⟨⟨by decide, _, rfl, RO.clos rfl⟩, ⟨by decide, _, rfl, by refine zNq ?_ us v vs; rfl⟩, bpo rfl, ⟨by decide, _, rfl, zAv (by rw [<- zJt u us v vs]; rfl) (zAa _)⟩, ⟨by decide, _, rfl, zBb 5 5 (by exact rfl) _⟩, ⟨by decide, _, rfl, RO.map _ _ _ (zAh _)⟩, tv⟩ (.fn _ _ _ _ _ _ _ (.cons _ _ _ _ (.ptr _ _ _ rfl) (.cons _ _ _ _ (.ptr _ _ _ rfl) .nil)) .nil .nil)
  have ho : o = [] := r4 he
  subst ho
  refine eI (⟨4, 5, en, T, ck, ⟨((us.length + 1 : Nat) : Int), m.q[i].n, m.q[i].t, m.q[i].c⟩, e, [], F, en'⟩ : PkY AskY) (aI ⟨rfl, (show Tr.get _ 4 = some (AObj.cells [.map (some 5), .int .i64 (en : Int)] _) from rfl), (show Tr.get _ 5 = some (AObj.map (encT T) ck) from rfl), hinv.gd, hsh, hD⟩ ?_)
  refine ifK (fun _ => ?_) (fun g => ab (show (e != 0) = false from g) (by simpa using he))
  refine aI rfl (zDq (a := 1) (b := 2) (c := 3) (e := 3) (u := u) (us := us) rfl (by decide) (by decide) rfl rfl rfl rfl rfl rfl rfl rfl rfl rfl (fun f => ?_))
  refine aI rfl (zDq (a := 0) (b := 1) (c := 2) (e := 3) (u := u) (us := us) rfl (by decide) (by decide) rfl rfl rfl rfl rfl rfl rfl rfl rfl rfl (fun f => ?_))
  refine Eq.mpr (zQt u us _ f) ?_
  rw [zBk g0 (hinv.bad hiI hR he)]
  exact ⟨_, _, _, 0, rfl, fun h => ab rfl h⟩
 have h1 : ¬ i < m.q.length := by have h1 : ¬ ((i : Nat) : Int) < (m.q.length : Int) := oF h1; omega
 have h1 : i = m.q.length := by omega
 subst h1
 refine aI rfl (zAg (rcq [0, 1, 2, 3, 4, 5] (d := 7) (d2 := 3) (lv := [(1, pt 0), (2, pt 1), (3, pt 2), (9, pt 4)]) (bs := [(0, .cells [.int .i64 m.id, .int .i64 m.fl, trQ m.q, trR m.an, trR m.ns, trR m.ar] 25), (1, .cells [sq 3 (us.length + 1) U] 28), (2, .cells [.int .i64 0] 29), (3, .cells ((u :: us).map byV) 5), (4, .cells [.map (some 5), .int .i64 (en : Int)] 98), (5, .map (encT T) ck)]) (W := []) (m := 6) (df := [.call 42 [pt 2, pt 1] []]) ⟨(sP rfl rfl), (sP rfl rfl), (sP rfl rfl), (sP rfl rfl), tv⟩ ⟨⟨by decide, _, rfl, RO.clos rfl⟩, ⟨by decide, _, rfl, zBe rfl⟩, bpo rfl, bpo (zAa _), ⟨by decide, _, rfl, zBb 5 5 (by exact rfl) _⟩, ⟨by decide, _, rfl, RO.map _ _ _ (zAh _)⟩, tv⟩ (.fn _ _ _ _ _ _ _ (.cons _ _ _ _ (.ptr _ _ _ rfl) (.cons _ _ _ _ (.ptr _ _ _ rfl) .nil)) .nil .nil)) (fun f => ?_))
 refine aI (by kernel_rfl) ?_
 refine LW.round ?_
 refine zAm tbMw3 [] 0 _ none mixed _ _ _ ?_
 refine zAn (mwS2 m 0 m.an) (fun p => m.an.length - p.1) (fun p => p.1 <= m.an.length /\ mwInv ⟨m.head, [], 0⟩ m.items (m.q.length + p.1) (mwSt p)) (0, u, us, T, en, ck) ⟨aH _, hinv⟩ ?_ ?_
 ·exact rcq [0, 1, 2, 3, 4, 5] ⟨(sP rfl rfl), (sP rfl rfl), (sP rfl rfl), ⟨_, rfl, .agg _ _ (.cons _ _ _ _ (.ptr _ _ _ rfl) (.cons _ _ _ _ (.ptr _ _ _ rfl) (.cons _ _ _ _ (.ptr _ _ _ rfl) .nil)))⟩, (sI rfl), ⟨_, rfl, zAs 8 rfl⟩, (sI rfl), (sI rfl), tv⟩ ⟨⟨by decide, _, rfl, RO.clos rfl⟩, ⟨by decide, _, rfl, zBe rfl⟩, bpo rfl, bpo (zAa _), ⟨by decide, _, rfl, zBb 5 5 (by exact rfl) _⟩, ⟨by decide, _, rfl, RO.map _ _ _ (zAh _)⟩, tv⟩ (.fn _ _ _ _ _ _ _ (.cons _ _ _ _ (.ptr _ _ _ rfl) (.cons _ _ _ _ (.ptr _ _ _ rfl) .nil)) .nil .nil)
 rintro ⟨i, u, us, T, en, ck⟩ f ⟨hi, hinv⟩
 have hi : i <= m.an.length := hi
 have hinv : mwInv ⟨m.head, [], 0⟩ m.items (m.q.length + i) ⟨u :: us, T, en⟩ := hinv
 refine zAm tbMw3 [7] 0 _ none mixed _ _ _ ?_
 refine ifK (fun h1 => ?_) (fun h1 => ?_)
 ·have h1 : i < m.an.length := by have h1 : ((i : Nat) : Int) < (m.an.length : Int) := oT h1; omega
  have hiI : m.q.length + i < m.items.length := by omega
  have hit : m.items[m.q.length + i] = .inr m.an[i] := zIq (pre := m.q.map .inl) (post := m.ns.map .inr ++ m.ar.map .inr) (by unfold MsT.items; simp) h1 (by simp <;> omega) hiI
  refine ifK (fun _ => ?_) (fun h2 => ab h2 (by simp [inI]; omega))
  refine eI m.an[i].n (eI m.an[i].t (eI m.an[i].c (eI m.an[i].ttl (eI m.an[i].d (aI (zBm layR h1) ?_)))))
  obtain ⟨R, hR⟩ : ∃ R, mwD ⟨u :: us, T, en⟩ m.items[m.q.length + i] = R := ⟨_, rfl⟩
  have hD : recD en T ((us.length + 1 : Nat) : Int) m.an[i] = R := by rw [<- hR, hit]; rfl
  obtain ⟨r1, r2, r3, r4, r5⟩ := zFb _ _ hR
  have hok := hm.2.1 _ (aV h1)
  obtain ⟨e, o, F, en'⟩ := R
  by_cases he : e = 0
  ·subst he
   obtain ⟨v, vs, rfl⟩ : ∃ v vs, o = v :: vs := by
    cases o with
    | nil => exact ab rfl (r3 rfl)
    | cons v vs => exact ⟨v, vs, rfl⟩
   refine eI (⟨4, 5, en, T, ck, ⟨((us.length + 1 : Nat) : Int), m.an[i]⟩, 0, v :: vs, F, en'⟩ : PkY WrtY) (aI ⟨rfl, (show Tr.get _ 4 = some (AObj.cells [.map (some 5), .int .i64 (en : Int)] _) from rfl), (show Tr.get _ 5 = some (AObj.map (encT T) ck) from rfl), hinv.gd, hok, hD⟩ ?_)
   refine ifK (fun h2 => ?_) (fun h2 => ?_)
   ·refine aI rfl (zDq (a := 1) (b := 2) (c := 3) (e := 3) (u := u) (us := us) rfl (by decide) (by decide) rfl rfl rfl rfl rfl rfl rfl rfl rfl rfl (fun f => ?_))
    refine aI rfl (zDq (a := 0) (b := 1) (c := 2) (e := 3) (u := u) (us := us) rfl (by decide) (by decide) rfl rfl rfl rfl rfl rfl rfl rfl rfl rfl (fun f => ?_))
    refine Eq.mpr (zQt u us _ f) ?_
    rw [zBk g0 (hinv.long (by have h2 : (((us.length + 1 : Nat) : Int)) > 65535 := oT h2; show 65535 < us.length + 1; omega))]
    exact ⟨_, _, _, 0, rfl, fun h => ab rfl h⟩
   refine eI ((v :: vs).map byV) (aI (zAi (l := v :: vs) h1s rfl) ?_)
   have hul : us.length + 1 <= 12 + 70000 * (m.q.length + i) := hinv.hi
   have hvl : vs.length + 1 <= 70000 := r1
   refine aI (apC h1s hby (by simp) (by simp) (oneB _) (by simp; omega) (by simp)) ?_
   refine ⟨(i + 1, u, us ++ v :: vs, T ++ F, en', ck + F.length), ⟨h1, hinv.next hiI hR rfl⟩, by show m.an.length - (i + 1) < m.an.length - i; omega, ?_⟩
   exact rcq [0, 1, 2, 8, 4, 5] ⟨(sP rfl rfl), (sP rfl rfl), (sP rfl rfl), ⟨_, rfl, .agg _ _ (.cons _ _ _ _ (.ptr _ _ _ rfl) (.cons _ _ _ _ (.ptr _ _ _ rfl) (.cons _ _ _ _ (.ptr _ _ _ rfl) .nil)))⟩, (sI rfl), ⟨_, rfl, zAs 8 rfl⟩, (sI rfl), zAb rfl (by rw [wrapN (by omega) (by omega)]; omega), tv⟩ ⟨⟨by decide, _, rfl, RO.clos rfl⟩, ⟨by decide, _, rfl, by refine zNq ?_ us v vs; rfl⟩, bpo rfl, ⟨by decide, _, rfl, zAv (by rw [<- zJt u us v vs]; rfl) (zAa _)⟩, ⟨by decide, _, rfl, zBb 5 5 (by exact rfl) _⟩, ⟨by decide, _, rfl, RO.map _ _ _ (zAh _)⟩, tv⟩ (.fn _ _ _ _ _ _ _ (.cons _ _ _ _ (.ptr _ _ _ rfl) (.cons _ _ _ _ (.ptr _ _ _ rfl) .nil)) .nil .nil)
  have ho : o = [] := r4 he
  subst ho
  refine eI (⟨4, 5, en, T, ck, ⟨((us.length + 1 : Nat) : Int), m.an[i]⟩, e, [], F, en'⟩ : PkY WrtY) (aI ⟨rfl, (show Tr.get _ 4 = some (AObj.cells [.map (some 5), .int .i64 (en : Int)] _) from rfl), (show Tr.get _ 5 = some (AObj.map (encT T) ck) from rfl), hinv.gd, hok, hD⟩ ?_)
  refine ifK (fun _ => ?_) (fun g => ab (show (e != 0) = false from g) (by simpa using he))
  refine aI rfl (zDq (a := 1) (b := 2) (c := 3) (e := 3) (u := u) (us := us) rfl (by decide) (by decide) rfl rfl rfl rfl rfl rfl rfl rfl rfl rfl (fun f => ?_))
  refine aI rfl (zDq (a := 0) (b := 1) (c := 2) (e := 3) (u := u) (us := us) rfl (by decide) (by decide) rfl rfl rfl rfl rfl rfl rfl rfl rfl rfl (fun f => ?_))
  refine Eq.mpr (zQt u us _ f) ?_
  rw [zBk g0 (hinv.bad hiI hR he)]
  exact ⟨_, _, _, 0, rfl, fun h => ab rfl h⟩
 have h1 : ¬ i < m.an.length := by have h1 : ¬ ((i : Nat) : Int) < (m.an.length : Int) := oF h1; omega
 have h1 : i = m.an.length := by omega
 subst h1
 refine aI rfl (zAg (rcq [0, 1, 2, 3, 4, 5] (d := 7) (d2 := 3) (lv := [(2, pt 1), (3, pt 2), (9, pt 4), (80, .agg #[.pointer (some ⟨0, 3, none⟩), .pointer (some ⟨0, 4, none⟩), .pointer (some ⟨0, 5, none⟩)]), (81, .int .i64 0)]) (bs := [(0, .cells [.int .i64 m.id, .int .i64 m.fl, trQ m.q, trR m.an, trR m.ns, trR m.ar] 25), (1, .cells [sq 3 (us.length + 1) U] 28), (2, .cells [.int .i64 0] 29), (3, .cells ((u :: us).map byV) 5), (4, .cells [.map (some 5), .int .i64 (en : Int)] 98), (5, .map (encT T) ck)]) (W := []) (m := 6) (df := [.call 42 [pt 2, pt 1] []]) ⟨(sP rfl rfl), (sP rfl rfl), (sP rfl rfl), ⟨_, rfl, .agg _ _ (.cons _ _ _ _ (.ptr _ _ _ rfl) (.cons _ _ _ _ (.ptr _ _ _ rfl) (.cons _ _ _ _ (.ptr _ _ _ rfl) .nil)))⟩, (sI rfl), tv⟩ ⟨⟨by decide, _, rfl, RO.clos rfl⟩, ⟨by decide, _, rfl, zBe rfl⟩, bpo rfl, bpo (zAa _), ⟨by decide, _, rfl, zBb 5 5 (by exact rfl) _⟩, ⟨by decide, _, rfl, RO.map _ _ _ (zAh _)⟩, tv⟩ (.fn _ _ _ _ _ _ _ (.cons _ _ _ _ (.ptr _ _ _ rfl) (.cons _ _ _ _ (.ptr _ _ _ rfl) .nil)) .nil .nil)) (fun f => ?_))
 refine LW.round ?_
 refine zAm tbMw3 [] 0 _ none mixed _ _ _ ?_
 refine zAn (mwS2 m 1 m.ns) (fun p => m.ns.length - p.1) (fun p => p.1 <= m.ns.length /\ mwInv ⟨m.head, [], 0⟩ m.items (m.q.length + m.an.length + p.1) (mwSt p)) (0, u, us, T, en, ck) ⟨aH _, hinv⟩ ?_ ?_
 ·exact rcq [0, 1, 2, 3, 4, 5] ⟨(sP rfl rfl), (sP rfl rfl), (sP rfl rfl), ⟨_, rfl, .agg _ _ (.cons _ _ _ _ (.ptr _ _ _ rfl) (.cons _ _ _ _ (.ptr _ _ _ rfl) (.cons _ _ _ _ (.ptr _ _ _ rfl) .nil)))⟩, (sI rfl), ⟨_, rfl, zAs 8 rfl⟩, (sI rfl), (sI rfl), tv⟩ ⟨⟨by decide, _, rfl, RO.clos rfl⟩, ⟨by decide, _, rfl, zBe rfl⟩, bpo rfl, bpo (zAa _), ⟨by decide, _, rfl, zBb 5 5 (by exact rfl) _⟩, ⟨by decide, _, rfl, RO.map _ _ _ (zAh _)⟩, tv⟩ (.fn _ _ _ _ _ _ _ (.cons _ _ _ _ (.ptr _ _ _ rfl) (.cons _ _ _ _ (.ptr _ _ _ rfl) .nil)) .nil .nil)
 rintro ⟨i, u, us, T, en, ck⟩ f ⟨hi, hinv⟩
 have hi : i <= m.ns.length := hi
 have hinv : mwInv ⟨m.head, [], 0⟩ m.items (m.q.length + m.an.length + i) ⟨u :: us, T, en⟩ := hinv
 refine zAm tbMw3 [7] 0 _ none mixed _ _ _ ?_
 refine ifK (fun h1 => ?_) (fun h1 => ?_)
 ·have h1 : i < m.ns.length := by have h1 : ((i : Nat) : Int) < (m.ns.length : Int) := oT h1; omega
  have hiI : m.q.length + m.an.length + i < m.items.length := by omega
  have hit : m.items[m.q.length + m.an.length + i] = .inr m.ns[i] := zIq (pre := m.q.map .inl ++ m.an.map .inr) (post := m.ar.map .inr) (by unfold MsT.items; simp) h1 (by simp <;> omega) hiI
  refine ifK (fun _ => ?_) (fun h2 => ab h2 (by simp [inI]; omega))
  refine eI m.ns[i].n (eI m.ns[i].t (eI m.ns[i].c (eI m.ns[i].ttl (eI m.ns[i].d (aI (zBm layR h1) ?_)))))
  obtain ⟨R, hR⟩ : ∃ R, mwD ⟨u :: us, T, en⟩ m.items[m.q.length + m.an.length + i] = R := ⟨_, rfl⟩
  have hD : recD en T ((us.length + 1 : Nat) : Int) m.ns[i] = R := by rw [<- hR, hit]; rfl
  obtain ⟨r1, r2, r3, r4, r5⟩ := zFb _ _ hR
  have hok := hm.2.2.1 _ (aV h1)
  obtain ⟨e, o, F, en'⟩ := R
  by_cases he : e = 0
  ·subst he
   obtain ⟨v, vs, rfl⟩ : ∃ v vs, o = v :: vs := by
    cases o with
    | nil => exact ab rfl (r3 rfl)
    | cons v vs => exact ⟨v, vs, rfl⟩
   refine eI (⟨4, 5, en, T, ck, ⟨((us.length + 1 : Nat) : Int), m.ns[i]⟩, 0, v :: vs, F, en'⟩ : PkY WrtY) (aI ⟨rfl, (show Tr.get _ 4 = some (AObj.cells [.map (some 5), .int .i64 (en : Int)] _) from rfl), (show Tr.get _ 5 = some (AObj.map (encT T) ck) from rfl), hinv.gd, hok, hD⟩ ?_)
   refine ifK (fun h2 => ?_) (fun h2 => ?_)
   ·refine aI rfl (zDq (a := 1) (b := 2) (c := 3) (e := 3) (u := u) (us := us) rfl (by decide) (by decide) rfl rfl rfl rfl rfl rfl rfl rfl rfl rfl (fun f => ?_))
    refine aI rfl (zDq (a := 0) (b := 1) (c := 2) (e := 3) (u := u) (us := us) rfl (by decide) (by decide) rfl rfl rfl rfl rfl rfl rfl rfl rfl rfl (fun f => ?_))
    refine Eq.mpr (zQt u us _ f) ?_
    rw [zBk g0 (hinv.long (by have h2 : (((us.length + 1 : Nat) : Int)) > 65535 := oT h2; show 65535 < us.length + 1; omega))]
    exact ⟨_, _, _, 0, rfl, fun h => ab rfl h⟩
   refine eI ((v :: vs).map byV) (aI (zAi (l := v :: vs) h1s rfl) ?_)
   have hul : us.length + 1 <= 12 + 70000 * (m.q.length + m.an.length + i) := hinv.hi
   have hvl : vs.length + 1 <= 70000 := r1
   refine aI (apC h1s hby (by simp) (by simp) (oneB _) (by simp; omega) (by simp)) ?_
   refine ⟨(i + 1, u, us ++ v :: vs, T ++ F, en', ck + F.length), ⟨h1, hinv.next hiI hR rfl⟩, by show m.ns.length - (i + 1) < m.ns.length - i; omega, ?_⟩
   exact rcq [0, 1, 2, 8, 4, 5] ⟨(sP rfl rfl), (sP rfl rfl), (sP rfl rfl), ⟨_, rfl, .agg _ _ (.cons _ _ _ _ (.ptr _ _ _ rfl) (.cons _ _ _ _ (.ptr _ _ _ rfl) (.cons _ _ _ _ (.ptr _ _ _ rfl) .nil)))⟩, (sI rfl), ⟨_, rfl, zAs 8 rfl⟩, (sI rfl), zAb rfl (by rw [wrapN (by omega) (by omega)]; omega), tv⟩ ⟨⟨by decide, _, rfl, RO.clos rfl⟩, ⟨by decide, _, rfl, by refine zNq ?_ us v vs; rfl⟩, bpo rfl, ⟨by decide, _, rfl, zAv (by rw [<- zJt u us v vs]; rfl) (zAa _)⟩, ⟨by decide, _, rfl, zBb 5 5 (by exact rfl) _⟩, ⟨by decide, _, rfl, RO.map _ _ _ (zAh _)⟩, tv⟩ (.fn _ _ _ _ _ _ _ (.cons _ _ _ _ (.ptr _ _ _ rfl) (.cons _ _ _ _ (.ptr _ _ _ rfl) .nil)) .nil .nil)
  have ho : o = [] := r4 he
  subst ho
  refine eI (⟨4, 5, en, T, ck, ⟨((us.length + 1 : Nat) : Int), m.ns[i]⟩, e, [], F, en'⟩ : PkY WrtY) (aI ⟨rfl, (show Tr.get _ 4 = some (AObj.cells [.map (some 5), .int .i64 (en : Int)] _) from rfl), (show Tr.get _ 5 = some (AObj.map (encT T) ck) from rfl), hinv.gd, hok, hD⟩ ?_)
  refine ifK (fun _ => ?_) (fun g => ab (show (e != 0) = false from g) (by simpa using he))
  refine aI rfl (zDq (a := 1) (b := 2) (c := 3) (e := 3) (u := u) (us := us) rfl (by decide) (by decide) rfl rfl rfl rfl rfl rfl rfl rfl rfl rfl (fun f => ?_))
  refine aI rfl (zDq (a := 0) (b := 1) (c := 2) (e := 3) (u := u) (us := us) rfl (by decide) (by decide) rfl rfl rfl rfl rfl rfl rfl rfl rfl rfl (fun f => ?_))
  refine Eq.mpr (zQt u us _ f) ?_
  rw [zBk g0 (hinv.bad hiI hR he)]
  exact ⟨_, _, _, 0, rfl, fun h => ab rfl h⟩
 have h1 : ¬ i < m.ns.length := by have h1 : ¬ ((i : Nat) : Int) < (m.ns.length : Int) := oF h1; omega
 have h1 : i = m.ns.length := by omega
 subst h1
 refine aI rfl (zAg (rcq [0, 1, 2, 3, 4, 5] (d := 7) (d2 := 3) (lv := [(2, pt 1), (3, pt 2), (9, pt 4), (80, .agg #[.pointer (some ⟨0, 3, none⟩), .pointer (some ⟨0, 4, none⟩), .pointer (some ⟨0, 5, none⟩)]), (81, .int .i64 1)]) (bs := [(0, .cells [.int .i64 m.id, .int .i64 m.fl, trQ m.q, trR m.an, trR m.ns, trR m.ar] 25), (1, .cells [sq 3 (us.length + 1) U] 28), (2, .cells [.int .i64 0] 29), (3, .cells ((u :: us).map byV) 5), (4, .cells [.map (some 5), .int .i64 (en : Int)] 98), (5, .map (encT T) ck)]) (W := []) (m := 6) (df := [.call 42 [pt 2, pt 1] []]) ⟨(sP rfl rfl), (sP rfl rfl), (sP rfl rfl), ⟨_, rfl, .agg _ _ (.cons _ _ _ _ (.ptr _ _ _ rfl) (.cons _ _ _ _ (.ptr _ _ _ rfl) (.cons _ _ _ _ (.ptr _ _ _ rfl) .nil)))⟩, (sI rfl), tv⟩ ⟨⟨by decide, _, rfl, RO.clos rfl⟩, ⟨by decide, _, rfl, zBe rfl⟩, bpo rfl, bpo (zAa _), ⟨by decide, _, rfl, zBb 5 5 (by exact rfl) _⟩, ⟨by decide, _, rfl, RO.map _ _ _ (zAh _)⟩, tv⟩ (.fn _ _ _ _ _ _ _ (.cons _ _ _ _ (.ptr _ _ _ rfl) (.cons _ _ _ _ (.ptr _ _ _ rfl) .nil)) .nil .nil)) (fun f => ?_))
 refine LW.round ?_
 refine zAm tbMw3 [] 0 _ none mixed _ _ _ ?_
 refine zAn (mwS2 m 2 m.ar) (fun p => m.ar.length - p.1) (fun p => p.1 <= m.ar.length /\ mwInv ⟨m.head, [], 0⟩ m.items (m.q.length + m.an.length + m.ns.length + p.1) (mwSt p)) (0, u, us, T, en, ck) ⟨aH _, hinv⟩ ?_ ?_
 ·exact rcq [0, 1, 2, 3, 4, 5] ⟨(sP rfl rfl), (sP rfl rfl), (sP rfl rfl), ⟨_, rfl, .agg _ _ (.cons _ _ _ _ (.ptr _ _ _ rfl) (.cons _ _ _ _ (.ptr _ _ _ rfl) (.cons _ _ _ _ (.ptr _ _ _ rfl) .nil)))⟩, (sI rfl), ⟨_, rfl, zAs 8 rfl⟩, (sI rfl), (sI rfl), tv⟩ ⟨⟨by decide, _, rfl, RO.clos rfl⟩, ⟨by decide, _, rfl, zBe rfl⟩, bpo rfl, bpo (zAa _), ⟨by decide, _, rfl, zBb 5 5 (by exact rfl) _⟩, ⟨by decide, _, rfl, RO.map _ _ _ (zAh _)⟩, tv⟩ (.fn _ _ _ _ _ _ _ (.cons _ _ _ _ (.ptr _ _ _ rfl) (.cons _ _ _ _ (.ptr _ _ _ rfl) .nil)) .nil .nil)
 rintro ⟨i, u, us, T, en, ck⟩ f ⟨hi, hinv⟩
 have hi : i <= m.ar.length := hi
 have hinv : mwInv ⟨m.head, [], 0⟩ m.items (m.q.length + m.an.length + m.ns.length + i) ⟨u :: us, T, en⟩ := hinv
 refine zAm tbMw3 [7] 0 _ none mixed _ _ _ ?_
 refine ifK (fun h1 => ?_) (fun h1 => ?_)
 ·have h1 : i < m.ar.length := by have h1 : ((i : Nat) : Int) < (m.ar.length : Int) := oT h1; omega
  have hiI : m.q.length + m.an.length + m.ns.length + i < m.items.length := by omega
  have hit : m.items[m.q.length + m.an.length + m.ns.length + i] = .inr m.ar[i] := zIq (pre := m.q.map .inl ++ (m.an.map .inr ++ m.ns.map .inr)) (post := []) (by unfold MsT.items; simp) h1 (by simp <;> omega) hiI
  refine ifK (fun _ => ?_) (fun h2 => ab h2 (by simp [inI]; omega))
  refine eI m.ar[i].n (eI m.ar[i].t (eI m.ar[i].c (eI m.ar[i].ttl (eI m.ar[i].d (aI (zBm layR h1) ?_)))))
  obtain ⟨R, hR⟩ : ∃ R, mwD ⟨u :: us, T, en⟩ m.items[m.q.length + m.an.length + m.ns.length + i] = R := ⟨_, rfl⟩
  have hD : recD en T ((us.length + 1 : Nat) : Int) m.ar[i] = R := by rw [<- hR, hit]; rfl
  obtain ⟨r1, r2, r3, r4, r5⟩ := zFb _ _ hR
  have hok := hm.2.2.2 _ (aV h1)
  obtain ⟨e, o, F, en'⟩ := R
  by_cases he : e = 0
  ·subst he
   obtain ⟨v, vs, rfl⟩ : ∃ v vs, o = v :: vs := by
    cases o with
    | nil => exact ab rfl (r3 rfl)
    | cons v vs => exact ⟨v, vs, rfl⟩
   refine eI (⟨4, 5, en, T, ck, ⟨((us.length + 1 : Nat) : Int), m.ar[i]⟩, 0, v :: vs, F, en'⟩ : PkY WrtY) (aI ⟨rfl, (show Tr.get _ 4 = some (AObj.cells [.map (some 5), .int .i64 (en : Int)] _) from rfl), (show Tr.get _ 5 = some (AObj.map (encT T) ck) from rfl), hinv.gd, hok, hD⟩ ?_)
   refine ifK (fun h2 => ?_) (fun h2 => ?_)
   ·refine aI rfl (zDq (a := 1) (b := 2) (c := 3) (e := 3) (u := u) (us := us) rfl (by decide) (by decide) rfl rfl rfl rfl rfl rfl rfl rfl rfl rfl (fun f => ?_))
    refine aI rfl (zDq (a := 0) (b := 1) (c := 2) (e := 3) (u := u) (us := us) rfl (by decide) (by decide) rfl rfl rfl rfl rfl rfl rfl rfl rfl rfl (fun f => ?_))
    refine Eq.mpr (zQt u us _ f) ?_
    rw [zBk g0 (hinv.long (by have h2 : (((us.length + 1 : Nat) : Int)) > 65535 := oT h2; show 65535 < us.length + 1; omega))]
    exact ⟨_, _, _, 0, rfl, fun h => ab rfl h⟩
   refine eI ((v :: vs).map byV) (aI (zAi (l := v :: vs) h1s rfl) ?_)
   have hul : us.length + 1 <= 12 + 70000 * (m.q.length + m.an.length + m.ns.length + i) := hinv.hi
   have hvl : vs.length + 1 <= 70000 := r1
   refine aI (apC h1s hby (by simp) (by simp) (oneB _) (by simp; omega) (by simp)) ?_
   refine ⟨(i + 1, u, us ++ v :: vs, T ++ F, en', ck + F.length), ⟨h1, hinv.next hiI hR rfl⟩, by show m.ar.length - (i + 1) < m.ar.length - i; omega, ?_⟩
   exact rcq [0, 1, 2, 8, 4, 5] ⟨(sP rfl rfl), (sP rfl rfl), (sP rfl rfl), ⟨_, rfl, .agg _ _ (.cons _ _ _ _ (.ptr _ _ _ rfl) (.cons _ _ _ _ (.ptr _ _ _ rfl) (.cons _ _ _ _ (.ptr _ _ _ rfl) .nil)))⟩, (sI rfl), ⟨_, rfl, zAs 8 rfl⟩, (sI rfl), zAb rfl (by rw [wrapN (by omega) (by omega)]; omega), tv⟩ ⟨⟨by decide, _, rfl, RO.clos rfl⟩, ⟨by decide, _, rfl, by refine zNq ?_ us v vs; rfl⟩, bpo rfl, ⟨by decide, _, rfl, zAv (by rw [<- zJt u us v vs]; rfl) (zAa _)⟩, ⟨by decide, _, rfl, zBb 5 5 (by exact rfl) _⟩, ⟨by decide, _, rfl, RO.map _ _ _ (zAh _)⟩, tv⟩ (.fn _ _ _ _ _ _ _ (.cons _ _ _ _ (.ptr _ _ _ rfl) (.cons _ _ _ _ (.ptr _ _ _ rfl) .nil)) .nil .nil)
  have ho : o = [] := r4 he
  subst ho
  refine eI (⟨4, 5, en, T, ck, ⟨((us.length + 1 : Nat) : Int), m.ar[i]⟩, e, [], F, en'⟩ : PkY WrtY) (aI ⟨rfl, (show Tr.get _ 4 = some (AObj.cells [.map (some 5), .int .i64 (en : Int)] _) from rfl), (show Tr.get _ 5 = some (AObj.map (encT T) ck) from rfl), hinv.gd, hok, hD⟩ ?_)
  refine ifK (fun _ => ?_) (fun g => ab (show (e != 0) = false from g) (by simpa using he))
  refine aI rfl (zDq (a := 1) (b := 2) (c := 3) (e := 3) (u := u) (us := us) rfl (by decide) (by decide) rfl rfl rfl rfl rfl rfl rfl rfl rfl rfl (fun f => ?_))
  refine aI rfl (zDq (a := 0) (b := 1) (c := 2) (e := 3) (u := u) (us := us) rfl (by decide) (by decide) rfl rfl rfl rfl rfl rfl rfl rfl rfl rfl (fun f => ?_))
  refine Eq.mpr (zQt u us _ f) ?_
  rw [zBk g0 (hinv.bad hiI hR he)]
  exact ⟨_, _, _, 0, rfl, fun h => ab rfl h⟩
 have h1 : ¬ i < m.ar.length := by have h1 : ¬ ((i : Nat) : Int) < (m.ar.length : Int) := oF h1; omega
 have h1 : i = m.ar.length := by omega
 subst h1
 refine aI rfl (zAg (rcq [0, 1, 2, 3, 4, 5] (d := 7) (d2 := 3) (lv := [(2, pt 1), (3, pt 2), (9, pt 4), (80, .agg #[.pointer (some ⟨0, 3, none⟩), .pointer (some ⟨0, 4, none⟩), .pointer (some ⟨0, 5, none⟩)]), (81, .int .i64 2)]) (bs := [(0, .cells [.int .i64 m.id, .int .i64 m.fl, trQ m.q, trR m.an, trR m.ns, trR m.ar] 25), (1, .cells [sq 3 (us.length + 1) U] 28), (2, .cells [.int .i64 0] 29), (3, .cells ((u :: us).map byV) 5), (4, .cells [.map (some 5), .int .i64 (en : Int)] 98), (5, .map (encT T) ck)]) (W := []) (m := 6) (df := [.call 42 [pt 2, pt 1] []]) ⟨(sP rfl rfl), (sP rfl rfl), (sP rfl rfl), ⟨_, rfl, .agg _ _ (.cons _ _ _ _ (.ptr _ _ _ rfl) (.cons _ _ _ _ (.ptr _ _ _ rfl) (.cons _ _ _ _ (.ptr _ _ _ rfl) .nil)))⟩, (sI rfl), tv⟩ ⟨⟨by decide, _, rfl, RO.clos rfl⟩, ⟨by decide, _, rfl, zBe rfl⟩, bpo rfl, bpo (zAa _), ⟨by decide, _, rfl, zBb 5 5 (by exact rfl) _⟩, ⟨by decide, _, rfl, RO.map _ _ _ (zAh _)⟩, tv⟩ (.fn _ _ _ _ _ _ _ (.cons _ _ _ _ (.ptr _ _ _ rfl) (.cons _ _ _ _ (.ptr _ _ _ rfl) .nil)) .nil .nil)) (fun f => ?_))
 refine LW.round ?_
 refine zAm tbMw3 [] 0 _ none mixed _ _ _ ?_
 refine ifK (fun h2 => ?_) (fun h2 => ?_)
 ·refine aI rfl (zDq (a := 1) (b := 2) (c := 3) (e := 3) (u := u) (us := us) rfl (by decide) (by decide) rfl rfl rfl rfl rfl rfl rfl rfl rfl rfl (fun f => ?_))
  refine Eq.mpr (zQt u us _ f) ?_
  rw [zBk g0 (hinv.long (by have h2 : (((us.length + 1 : Nat) : Int)) > 65535 := oT h2; show 65535 < us.length + 1; omega))]
  exact ⟨_, _, _, 0, rfl, fun h => ab rfl h⟩
 refine aI rfl (zDq (a := 1) (b := 2) (c := 3) (e := 0) (u := u) (us := us) rfl (by decide) (by decide) rfl rfl rfl rfl rfl rfl rfl rfl rfl rfl (fun f => ?_))
 refine Eq.mpr (mw_e3 u us _ f) ?_
 have e : m.wr = (0, u :: us) := by
  have h2 : ¬ (((us.length + 1 : Nat) : Int)) > 65535 := oF h2
  have hI' : m.q.length + m.an.length + m.ns.length + m.ar.length = m.items.length := by omega
  have hinv : mwInv ⟨m.head, [], 0⟩ m.items m.items.length ⟨u :: us, T, en⟩ := hI' ▸ hinv
  exact wr_some g0 (hinv.fin (by show us.length + 1 <= 65535; omega))
 rw [e]
 exact ⟨_, _, _, 2, rfl, fun _ => ⟨by decide, mw_g3 u us f⟩⟩
end
section
open Go Go.RowKit
noncomputable def tbMw2 : Tb Try.prog 0 := tbOf mixed [zJi]
theorem zTj (l : List RcX) (hl : ∀ x ∈ l, x.ok = true) (hn : l.length <= 1000000) : ∃ r, FnS Try.prog 0 56 [trR l] .e 0 r /\ ∃ H k wr, r = .ret (.int .i64 (firstE recC l)) H k wr := by
 refine zBh mixed tbMw2 [] Try.func56 (c := bodyOf Try.f56) (by kernel_rfl) ?_
 refine zAn (fun (i : Nat) f => ⟨slots 5 [(0, trR l), (3, .int .i64 (i : Nat))] f, heap 0 [], 0, [], []⟩) (fun i => l.length - i) (fun i => i <= l.length /\ firstE recC l = firstE recC (l.drop i)) 0 ⟨aH _, rfl⟩ ?_ ?_
 ·exact rcq [] ⟨⟨_, rfl, zAs 8 rfl⟩, (sI rfl), tv⟩ trivial .nil
 rintro i f ⟨hi, heq⟩
 have hi : i <= l.length := hi
 refine zAm tbMw2 [] 0 _ none mixed _ _ _ ?_
 refine ifK (fun h1 => ?_) (fun h1 => ?_)
 ·have h1 : i < l.length := by have h1 : ((i : Nat) : Int) < (l.length : Int) := oT h1; omega
  rw [zDi recC l i h1] at heq
  refine ifK (fun _ => ?_) (fun h2 => ab h2 (by simp [inI]; omega))
  refine eI l[i].n (eI l[i].t (eI l[i].c (eI l[i].ttl (eI l[i].d (aI (zBm layR h1) ?_)))))
  obtain ⟨x, hx⟩ : ∃ x, l[i] = x := ⟨_, rfl⟩
  rw [hx] at heq ⊢
  have hs : x.ok = true := hx ▸ hl _ (aV h1)
  refine aI hs ?_
  refine ifK (fun h2 => ?_) (fun h2 => ?_)
  ·have h2 : recC x ≠ 0 := by simpa using h2
   have e1 : firstE recC l = recC x := by rw [heq, if_pos h2]
   refine aI rfl (zAg (rcq [] (d := 5) (d2 := 0) (lv := [(2, .int .i64 (recC x))]) (bs := []) (W := []) (m := 0) (df := []) ⟨(sI rfl), tv⟩ trivial .nil) (fun f => ?_))
   rw [e1]; exact ⟨_, _, _, rfl⟩
  have h2 : recC x = 0 := by simpa using h2
  exact ⟨i + 1, ⟨h1, by rw [heq, if_neg (by simpa using h2)]⟩, by show l.length - (i + 1) < l.length - i; omega, rcq [] ⟨⟨_, rfl, zAs 8 rfl⟩, zAb rfl (by rw [wrapN (by omega) (by omega)]; omega), tv⟩ trivial .nil⟩
 have h1 : ¬ i < l.length := fun e => ab (show ((i : Nat) : Int) < (l.length : Int) by omega) (oF h1)
 have e1 : firstE recC l = 0 := by rw [heq, zDt _ _ _ (by omega)]
 refine aI rfl (zAg (rcq [] (d := 5) (d2 := 0) (lv := []) (bs := []) (W := []) (m := 0) (df := []) trivial trivial .nil) (fun f => ?_))
 rw [e1]; exact ⟨_, _, _, rfl⟩
noncomputable def zQc : Ct Try.prog 0 := CtR.tree 56 (List RcX) (fun x => [trR x]) (fun x => (∀ y ∈ x, y.ok = true) /\ x.length <= 1000000) (fun x => .int .i64 (firstE recC x)) (fun a b h => by simp only [aQ, and_true] at h; exact zCa layR h) (fun _ => rfl)
 (fun x h => by obtain ⟨r, hF, H, m, wr, rfl⟩ := zTj x h.1 h.2; exact ⟨_, _, _, _, hF, .one _ _ (.plain _ rfl)⟩)
noncomputable def zSu : Ct Try.prog 0 := Ct.inl (tbOf mixed []) mixed [] 54 Try.f54 Try.func54 (bodyOf Try.f54) (by kernel_rfl)
noncomputable def zNh : Tb Try.prog 0 := tbOf mixed [zSu, zFr, zQc]
theorem zRf (m : MsT) (hm : m.okM) (hk : m.fit 1000000) : ∃ r, FnS Try.prog 0 15 [m.v] .e 0 r /\ ∃ H k wr, r = .ret (.int .i64 m.chk) H k wr := by
 obtain ⟨id, fl, ql, al, nl, rl⟩ := m
 obtain ⟨hq, ha, hn, hr⟩ := hm
 obtain ⟨f1, f2, f3, f4⟩ := hk
 have f1 : ql.length <= 1000000 := f1
 refine zBh mixed zNh [] Try.func15 (c := bodyOf Try.f15) (by kernel_rfl) ?_
 unfold MsT.chk msC
 refine ifK (fun g1 => ?_) (fun g1 => by rw [zFx g1]; exact ⟨_, _, _, rfl⟩)
 refine ifK (fun g2 => by rw [zCq g2]; exact ⟨_, _, _, rfl⟩) (fun g2 => ?_)
 rw [zFc g1 g2, Bool.true_and]
 refine ifK (fun g3 => ?_) (fun g3 => by rw [zFx g3]; exact ⟨_, _, _, rfl⟩)
 refine ifK (fun g4 => by rw [zCq g4]; exact ⟨_, _, _, rfl⟩) (fun g4 => ?_)
 rw [zFc g3 g4, if_neg (by decide)]
 refine ifK (fun g5 => by rw [zCq g5]; exact ⟨_, _, _, rfl⟩) (fun g5 => ?_)
 rw [zEe g5, Bool.true_and]
 refine ifK (fun g6 => by rw [zCq g6]; exact ⟨_, _, _, rfl⟩) (fun g6 => ?_)
 rw [zEe g6, Bool.true_and]
 refine ifK (fun g7 => by rw [zCq g7]; exact ⟨_, _, _, rfl⟩) (fun g7 => ?_)
 rw [zEe g7, Bool.true_and]
 refine ifK (fun g8 => by rw [zCq g8]; exact ⟨_, _, _, rfl⟩) (fun g8 => ?_)
 rw [zEe g8, if_neg (by decide)]
 refine zAn (fun (i : Nat) f => ⟨slots 7 [(1, pt 0), (3, .int .i64 (i : Nat))] f, heap 1 [(0, .cells [.int .i64 id, .int .i64 fl, trQ ql, trR al, trR nl, trR rl] 25)], 1, [], []⟩) (fun i => ql.length - i) (fun i => i <= ql.length /\ firstE quC ql = firstE quC (ql.drop i)) 0 ⟨aH _, rfl⟩ ?_ ?_
 ·exact rcq [0] ⟨(sP rfl rfl), (sI rfl), tv⟩ ⟨⟨by decide, _, rfl, RO.clos rfl⟩, tv⟩ .nil
 rintro i f ⟨hi, heq⟩
 have hi : i <= ql.length := hi
 refine zAm zNh [] 0 _ none mixed _ _ _ ?_
 refine ifK (fun h1 => ?_) (fun h1 => ?_)
 ·have h1 : i < ql.length := by have h1 : ((i : Nat) : Int) < (ql.length : Int) := oT h1; omega
  rw [zDi quC ql i h1] at heq
  refine ifK (fun _ => ?_) (fun h2 => ab h2 (by simp [inI]; omega))
  refine eI ql[i].n (eI ql[i].t (eI ql[i].c (aI (zBm layQ h1) ?_)))
  obtain ⟨x, hx⟩ : ∃ x, ql[i] = x := ⟨_, rfl⟩
  rw [hx] at heq ⊢
  have hs : shortB x.n = true := hx ▸ hq _ (aV h1)
  refine aI hs ?_
  refine ifK (fun h2 => ?_) (fun h2 => ?_)
  ·have h2 : (labels (bs x.n)).2 ≠ 0 := by simpa using h2
   have e : quC x = (labels (bs x.n)).2 := by unfold quC; rw [if_pos h2]
   have e1 : firstE quC ql = (labels (bs x.n)).2 := by rw [heq, e, if_pos h2]
   refine aI rfl (zAg (rcq [] (d := 7) (d2 := 0) (lv := [(2, .int .i64 ((labels (bs x.n)).2))]) (bs := []) (W := []) (m := 0) (df := []) ⟨(sI rfl), tv⟩ trivial .nil) (fun f => ?_))
   rw [e1, if_pos h2]; exact ⟨_, _, _, rfl⟩
  have h2 : (labels (bs x.n)).2 = 0 := by simpa using h2
  have e0 : quC x = if (numB x.t 65535 && numB x.c 65535) = true then 0 else 5 := by unfold quC; rw [if_neg (by simpa using h2)]
  have bad : (numB x.t 65535 && numB x.c 65535) = false -> firstE quC ql = 5 := fun h => by rw [heq, e0, h]; rfl
  have good : (numB x.t 65535 && numB x.c 65535) = true -> firstE quC ql = firstE quC (ql.drop (i + 1)) := fun h => by rw [heq, e0, h]; rfl
  refine ifK (fun _ => ?_) (fun h2 => ab h2 (by simp [inI]; omega))
  refine eI ql[i].n (eI ql[i].t (eI ql[i].c (aI (zBm layQ h1) ?_)))
  rw [hx]
  refine ifK (fun k1 => ?_) (fun k1 => ?_)
  ·refine ifK (fun k2 => ?_) (fun k2 => ?_)
   ·have e1 := bad (by rw [zCq k2]; rfl)
    refine aI rfl (zAg (rcq [] (d := 7) (d2 := 0) (lv := [(2, .int .i64 (5))]) (bs := []) (W := []) (m := 0) (df := []) ⟨(sI rfl), tv⟩ trivial .nil) (fun f => ?_))
    rw [e1, if_pos (by decide)]; exact ⟨_, _, _, rfl⟩
   refine ifK (fun _ => ?_) (fun h2 => ab h2 (by simp [inI]; omega))
   refine eI ql[i].n (eI ql[i].t (eI ql[i].c (aI (zBm layQ h1) ?_)))
   rw [hx]
   refine ifK (fun k3 => ?_) (fun k3 => ?_)
   ·refine ifK (fun k4 => ?_) (fun k4 => ?_)
    ·have e1 := bad (by rw [zCq k4, Bool.and_false])
     refine aI rfl (zAg (rcq [] (d := 7) (d2 := 0) (lv := [(2, .int .i64 (5))]) (bs := []) (W := []) (m := 0) (df := []) ⟨(sI rfl), tv⟩ trivial .nil) (fun f => ?_))
     rw [e1, if_pos (by decide)]; exact ⟨_, _, _, rfl⟩
    exact ⟨i + 1, ⟨h1, good (by rw [zFc k1 k2, zFc k3 k4]; rfl)⟩, by show ql.length - (i + 1) < ql.length - i; omega, rcq [0] ⟨(sP rfl rfl), zAb rfl (by rw [wrapN (by omega) (by omega)]; omega), tv⟩ ⟨⟨by decide, _, rfl, RO.clos rfl⟩, tv⟩ .nil⟩
   have e1 := bad (by rw [zFx k3, Bool.and_false])
   refine aI rfl (zAg (rcq [] (d := 7) (d2 := 0) (lv := [(2, .int .i64 (5))]) (bs := []) (W := []) (m := 0) (df := []) ⟨(sI rfl), tv⟩ trivial .nil) (fun f => ?_))
   rw [e1, if_pos (by decide)]; exact ⟨_, _, _, rfl⟩
  have e1 := bad (by rw [zFx k1]; rfl)
  refine aI rfl (zAg (rcq [] (d := 7) (d2 := 0) (lv := [(2, .int .i64 (5))]) (bs := []) (W := []) (m := 0) (df := []) ⟨(sI rfl), tv⟩ trivial .nil) (fun f => ?_))
  rw [e1, if_pos (by decide)]; exact ⟨_, _, _, rfl⟩
 have h1 : ¬ i < ql.length := fun e => ab (show ((i : Nat) : Int) < (ql.length : Int) by omega) (oF h1)
 have e1 : firstE quC ql = 0 := by rw [heq, zDt _ _ _ (by omega)]
 rw [e1, if_neg (by decide)]
 refine aI rfl (zAg (rcq [0] (d := 7) (d2 := 1) (lv := [(1, pt 0)]) (bs := [(0, .cells [.int .i64 id, .int .i64 fl, trQ ql, trR al, trR nl, trR rl] 25)]) (W := []) (m := 1) (df := []) ⟨(sP rfl rfl), tv⟩ ⟨⟨by decide, _, rfl, RO.clos rfl⟩, tv⟩ .nil) (fun f => ?_))
 refine LW.round ?_
 refine zAm zNh [] 0 _ none mixed _ _ _ ?_
 refine eI al (aI ⟨rfl, ha, f2⟩ ?_)
 refine ifK (fun h2 => ?_) (fun h2 => ?_)
 ·have h2 : firstE recC al ≠ 0 := by simpa using h2
  rw [if_pos h2]; exact ⟨_, _, _, rfl⟩
 have h2 : firstE recC al = 0 := by simpa using h2
 rw [if_neg (by simpa using h2)]
 refine LW.round ?_
 refine zAm zNh [] 0 _ none mixed _ _ _ ?_
 refine eI nl (aI ⟨rfl, hn, f3⟩ ?_)
 refine ifK (fun h2 => ?_) (fun h2 => ?_)
 ·have h2 : firstE recC nl ≠ 0 := by simpa using h2
  rw [if_pos h2]; exact ⟨_, _, _, rfl⟩
 have h2 : firstE recC nl = 0 := by simpa using h2
 rw [if_neg (by simpa using h2)]
 refine LW.round ?_
 refine zAm zNh [] 0 _ none mixed _ _ _ ?_
 refine eI rl (aI ⟨rfl, hr, f4⟩ ?_)
 refine ifK (fun h2 => ?_) (fun h2 => ?_)
 ·have h2 : firstE recC rl ≠ 0 := by simpa using h2
  exact ⟨_, _, _, rfl⟩
 have h2 : firstE recC rl = 0 := by simpa using h2
 rw [h2]
 refine LW.round ?_
 refine zAm zNh [] 0 _ none mixed _ _ _ ?_
 exact ⟨_, _, _, rfl⟩
noncomputable def zJh : Ct Try.prog 0 := CtR.tree 15 MsT (fun m => [m.v]) (fun m => m.okM /\ m.fit 1000000) (fun m => .int .i64 m.chk) (fun a b h => by simp only [aQ, and_true] at h; exact MsT.v_inj h) (fun _ => rfl)
 (fun m h => by obtain ⟨r, hF, H, k, wr, rfl⟩ := zRf m h.1 h.2; exact ⟨_, _, _, _, hF, .one _ _ (.plain _ rfl)⟩)
end
section
open Go Go.RowKit
theorem CallOK.weaken {P : Program} {g0 : Nat} {f : FuncId} {args : List Value} {H H' H2 : Tr AObj} {n n' : Nat} {v : Value} {wr wr2 : List Nat} (h : CallOK P g0 f args H n (.ret v H' n' wr)) (hw : ∀ x ∈ wr, x ∈ wr2) (hd : ∀ k, H2.get k = H'.get k \/ H2.get k = none) (hs : ∀ k, k < n -> k ∉ wr2 -> H2.get k = H.get k) : CallOK P g0 f args H n (.ret v H2 n' wr2) := by
 obtain ⟨hg, hc⟩ := h
 have hg : Grw n n' H H' wr := hg
 refine ⟨⟨hg.le, hs, fun hl k hk => ?_⟩, fun E w args' h1 h2 h3 h4 h5 => (hc E w args' h1 h2 h3 h4 h5).mono ?_⟩
 ·rcases hd k with e | e
  ·rw [e]; exact hg.low hl k hk
  exact e
 rintro e w' ⟨E', v', q1, q2, q3, q4, q5, q6⟩
 refine ⟨E', v', q1, q2, q3, q4, q5.sub fun k o ho => ?_, q6.sub fun x hx _ => hw x hx⟩
 rcases hd k with e | e
 ·exact e ▸ ho
 have ho : H2.get k = some o := ho
 rw [e] at ho; cases ho
structure RuY (Y : Type) where
 pb : Nat
 en : Nat
 T : List (Bl × Nat)
 y : Y
 e : Int
 o : Bl
 F : List (Bl × Nat)
 en' : Nat
def ruO (pb : Nat) (T : List (Bl × Nat)) (e : Int) (o : Bl) (F : List (Bl × Nat)) (en' : Nat) (H : Tr AObj) (n : Nat) : Res := match F, o with
 | [], [] => .ret (.tuple #[.slice none 0 0, .int .i64 e]) (setL H [(pb, some (.cells [lsV (pb + 2) T, .int .i64 (en' : Int)] 74))]) n [pb, pb + 2]
 | [], u :: us => .ret (.tuple #[sq n (us.length + 1) U, .int .i64 e]) (setL H [(pb, some (.cells [lsV (pb + 2) T, .int .i64 (en' : Int)] 74)), (n, some (.cells ((u :: us).map byV) 5))]) (n + 1) [pb, pb + 2]
 | p :: F, [] => .ret (.tuple #[.slice none 0 0, .int .i64 e]) (setL H [(pb, some (.cells [sq n (T ++ p :: F).length U, .int .i64 (en' : Int)] 74)), (pb + 2, none), (n, some (.cells ((T ++ p :: F).flatMap layT.g) 130))]) (n + 1) [pb, pb + 2]
 | p :: F, u :: us => .ret (.tuple #[sq n (us.length + 1) U, .int .i64 e]) (setL H [(pb, some (.cells [.slice (some ⟨n + 1, 0, none⟩) (T ++ p :: F).length U, .int .i64 (en' : Int)] 74)), (pb + 2, none), (n, some (.cells ((u :: us).map byV) 5)), (n + 1, some (.cells ((T ++ p :: F).flatMap layT.g) 130))]) (n + 2) [pb, pb + 2]
def ruAt (pb : Nat) (T : List (Bl × Nat)) (en : Nat) (H : Tr AObj) : Prop := H.get pb = some (.cells [lsV (pb + 2) T, .int .i64 (en : Int)] 74) /\ (T ≠ [] -> H.get (pb + 2) = lsO layT T)
theorem zLv : ∀ (l : List (Nat × Option AObj)) {A B : Tr AObj}, (∀ k, A.get k = B.get k \/ A.get k = none) -> ∀ k, (setL A l).get k = (setL B l).get k \/ (setL A l).get k = none
 | [], _, _, h, k => h k
 | (x, o) :: l, A, B, h, k => zLv l (fun j => by
   by_cases e : j = x
   ·subst e; rw [Tr.get_set_self, Tr.get_set_self]; exact .inl rfl
   rw [Tr.get_set_ne _ _ e, Tr.get_set_ne _ _ e]; exact h j) k
theorem zVt {A : Tr AObj} (b : Nat) : ∀ k, (A.set b none).get k = A.get k \/ (A.set b none).get k = none := fun k => by
 by_cases e : k = b
 ·subst e; exact .inr (Tr.get_set_self _ _ _)
 exact .inl (Tr.get_set_ne _ _ e)
theorem ru_ok {f : FuncId} {args : List Value} {pb en : Nat} {T : List (Bl × Nat)} {e : Int} {o : Bl} {F : List (Bl × Nat)} {en' : Nat} {H : Tr AObj} {n : Nat} (h : ruAt pb T en H)
  (h0 : T = [] -> CallOK Try.prog 0 f args H n (rwO pb none [] e o F en' H n)) (h1 : T ≠ [] -> CallOK Try.prog 0 f args H n (rwO pb (some (pb + 2)) T e o F en' H n)) : CallOK Try.prog 0 f args H n (ruO pb T e o F en' H n) := by
 cases T with
 | cons q T =>
  have := h1 (aZ _ _)
  cases F <;> cases o <;> exact this
 | nil =>
  have := h0 rfl
  have hsub : ∀ x ∈ [pb], x ∈ [pb, pb + 2] := fun x hx => by simp at hx; simp [hx]
  have keep : ∀ (l : List (Nat × Option AObj)), (∀ p ∈ l, p.1 = pb \/ p.1 = pb + 2 \/ n <= p.1) -> ∀ k, k < n -> k ∉ [pb, pb + 2] -> (setL H l).get k = H.get k := fun l hl k hk hm => zPe l H k fun hc => by
   obtain ⟨p, hp, rfl⟩ := List.mem_map.1 hc
   rcases hl p hp with e | e | e
   ·exact hm (by simp [e])
   ·exact hm (by simp [e])
   omega
  cases F with
  | nil =>
   cases o with
   | nil => exact CallOK.weaken this hsub (fun k => .inl rfl) (keep _ (fun p hp => by simp at hp; simp [hp]))
   | cons u us => exact CallOK.weaken this hsub (fun k => .inl rfl) (keep _ (fun p hp => by simp at hp; rcases hp with rfl | rfl <;> simp))
  | cons p F =>
   cases o with
   | nil => exact CallOK.weaken this hsub (zLv _ (zVt _)) (keep [(pb, _), (pb + 2, none), (n, _)] (fun p hp => by simp at hp; rcases hp with rfl | rfl | rfl <;> simp))
   | cons u us => exact CallOK.weaken this hsub (zLv _ (zVt _)) (keep [(pb, _), (pb + 2, none), (n, _), (n + 1, _)] (fun p hp => by simp at hp; rcases hp with rfl | rfl | rfl | rfl <;> simp))
theorem ru_pre {T T' : List (Bl × Nat)} {en en' : Nat} {H : Tr AObj} {pb : Nat} (h : ruAt pb T en H) (k : ruAt pb T' en' H) : T = T' /\ en = en' := by
 obtain ⟨h1, h2⟩ := h
 obtain ⟨k1, k2⟩ := k
 rw [h1] at k1
 simp only [aP, AObj.cells.injEq, aQ, Value.int.injEq, true_and, and_true] at k1
 obtain ⟨e1, e2⟩ := k1
 have e2 : en = en' := Int.ofNat.inj e2
 refine ⟨?_, e2⟩
 cases T with
 | nil => cases T' with
  | nil => rfl
  | cons q T' => cases e1
 | cons p T => cases T' with
  | nil => cases e1
  | cons q T' =>
   have := (h2 (aZ _ _)).symm.trans (k2 (aZ _ _))
   simp only [lsO, aP, AObj.cells.injEq, and_true] at this
   exact layT.flat_inj _ _ this
theorem zVo {f : FuncId} {Y : Type} {xs : Y -> List Value} (pl : ∀ y, plainL (xs y) = true) {pre : Y -> Prop} {D : Nat -> List (Bl × Nat) -> Y -> Int × Bl × List (Bl × Nat) × Nat} {bd : Nat}
  (fn0 : ∀ (y : Y) (en : Nat), pre y -> RpFn0 f (xs y) en (D en [] y)) (fn1 : ∀ (y : Y) (en : Nat) (T : List (Bl × Nat)), goodT T -> T ≠ [] -> T.length <= bd -> pre y -> RpFn1 f (xs y) en T (D en T y))
  (pb : Nat) (v : Option Nat) (en : Nat) (T : List (Bl × Nat)) (y : Y) (e : Int) (o : Bl) (F : List (Bl × Nat)) (en' : Nat) (H : Tr AObj) (n : Nat) (h2 : H.get pb = some (.cells [rnV v T, .int .i64 (en : Int)] 74)) (h3 : rnAt v T H) (h4 : goodT T) (h5 : T.length <= bd) (h6 : pre y) (h7 : D en T y = (e, o, F, en')) : CallOK Try.prog 0 f (pt pb :: xs y) H n (rwO pb v T e o F en' H n) := by
 cases v with
 | none =>
  have h3 : T = [] := h3
  subst h3
  obtain ⟨q1, q2, q3⟩ := rpackB0 h2
  have hfn := fn0 y en h6
  rw [h7] at hfn
  obtain ⟨r, hF, H', m, wr, b, l, rfl, g1, g2⟩ := hfn
  have := zHd (n := n) (hF.wr [0]) q1 q2 (.cons _ _ _ _ (.ptr _ _ _ rfl) (zDe (pl y))) h2 (by simp) g1 rfl g2 q3
  cases F <;> cases o <;> exact this
 | some b =>
  obtain ⟨h3, hT0⟩ := h3
  obtain ⟨q1, q2, q3⟩ := rpackB h2 h3
  have hfn := fn1 y en T h4 hT0 h5 h6
  rw [h7] at hfn
  obtain ⟨r, hF, H', m, wr, b', l, rfl, g1, gl, g2, g3⟩ := hfn
  have := zHe (n := n) (hF.wr [0, 1]) q1 q2 (.cons _ _ _ _ (.ptr _ _ _ rfl) (zDe (pl y))) h2 h3 (by simp) (by simp) g1 gl g2 g3 q3
  cases F <;> cases o <;> exact this
noncomputable def ct_ru (f : FuncId) (Y : Type) (xs : Y -> List Value) (inj : ∀ y y', xs y = xs y' -> y = y') (pre : Y -> Prop) (D : Nat -> List (Bl × Nat) -> Y -> Int × Bl × List (Bl × Nat) × Nat) (bd : Nat)
  (ok : ∀ (pb : Nat) (v : Option Nat) (en : Nat) (T : List (Bl × Nat)) (y : Y) (e : Int) (o : Bl) (F : List (Bl × Nat)) (en' : Nat) (H : Tr AObj) (n : Nat), H.get pb = some (.cells [rnV v T, .int .i64 (en : Int)] 74) -> rnAt v T H -> goodT T -> T.length <= bd -> pre y -> D en T y = (e, o, F, en') -> CallOK Try.prog 0 f (pt pb :: xs y) H n (rwO pb v T e o F en' H n)) : Ct Try.prog 0 :=
 CtR.ct { f := f, X := RuY Y,
          pre := fun x as0 H _ => as0 = .pointer (some ⟨x.pb, 0, none⟩) :: xs x.y /\ ruAt x.pb x.T x.en H /\ goodT x.T /\ x.T.length <= bd /\ pre x.y /\ D x.en x.T x.y = (x.e, x.o, x.F, x.en'),
          out := fun x H n => ruO x.pb x.T x.e x.o x.F x.en' H n,
          tr := fun x H n K => frcN x.pb fun pb => K (ruO pb x.T x.e x.o x.F x.en' H n),
          trOk := fun x H n K h => by rw [zCe] at h; exact h,
          ok := fun x as0 H n ⟨h1, h2, h4, h5, h6, h7⟩ => by
           subst h1
           obtain ⟨pb, en, T, y, e, o, F, en'⟩ := x
           have hc : CallOK Try.prog 0 f (pt pb :: xs y) H n (ruO pb T e o F en' H n) := ru_ok h2 (fun hT => by
             subst hT
             exact ok pb none en [] y e o F en' H n h2.1 rfl h4 h5 h6 h7) (fun hT => by
             refine ok pb (some (pb + 2)) en T y e o F en' H n ?_ ⟨?_, hT⟩ h4 h5 h6 h7
             ·cases T with
              | nil => exact ab rfl hT
              | cons q T => exact h2.1
             cases T with
             | nil => exact ab rfl hT
             | cons q T => exact h2.2 hT)
           cases F <;> cases o <;> exact hc,
          uniq := fun x y as0 H n ⟨h1, h2, _, _, _, h6⟩ ⟨k1, k2, _, _, _, k6⟩ => by
           obtain ⟨pb, en, T, z, e, o, F, en1⟩ := x
           obtain ⟨pb', en', T', z', e', o', F', en1'⟩ := y
           rw [h1] at k1
           simp only [aQ, Value.pointer.injEq, aP, Addr.mk.injEq, and_true] at k1
           obtain ⟨rfl, k1⟩ := k1
           have := inj _ _ k1
           subst this
           obtain ⟨rfl, rfl⟩ := ru_pre h2 k2
           have := h6.symm.trans k6
           simp only [Prod.mk.injEq] at this
           obtain ⟨rfl, rfl, rfl, rfl⟩ := this
           rfl }
noncomputable def ct_raskU : Ct Try.prog 0 := ct_ru 49 AskY AskY.xs AskY.inj (fun y => shortB y.n = true) (fun en T y => y.D en T) 800000000
 (zVo (fun _ => rfl) (fun y en hs => zVl y en hs) (fun y en T hT hT0 hTl hs => zVm y en T hT hT0 (aW hTl (by decide)) hs))
noncomputable def ct_rrecwU : Ct Try.prog 0 := ct_ru 50 WrtY WrtY.xs WrtY.inj (fun y => y.x.ok = true) (fun en T y => y.D en T) 800000000
 (zVo (fun _ => rfl) (fun y en hs => rrecw0_fn y en hs) (fun y en T hT hT0 hTl hs => rrecw1_fn y en T hT hT0 hTl hs))
end
section
open Go Go.RowKit
noncomputable def tbMw4 : Tb Try.prog 0 := tbOf mixed [zJh, zKs, ct_raskU, ct_rrecwU]
abbrev RwP := Nat × UInt8 × Bl × List (Bl × Nat) × Nat
def rwSt (p : RwP) : MwS := ⟨p.2.1 :: p.2.2.1, p.2.2.2.1, p.2.2.2.2⟩
def rwS1 (m : MsT) (p : RwP) (f : Nat -> Option Value) : Fs := ⟨slots 8 [(1, pt 2), (5, sq 0 (p.2.2.1.length + 1) U), (10, pt 1), (11, .int .i64 (p.1 : Nat))] f, heapO 3 [(0, .cells ((p.2.1 :: p.2.2.1).map byV) 5), (1, .cells [lsV 3 p.2.2.2.1, .int .i64 (p.2.2.2.2 : Int)] 74), (2, .cells [.int .i64 m.id, .int .i64 m.fl, trQ m.q, trR m.an, trR m.ns, trR m.ar] 25)] [(3, lsO layT p.2.2.2.1)], 4, [], []⟩
def rwS2 (m : MsT) (k : Int) (p : RwP) (f : Nat -> Option Value) : Fs := ⟨slots 8 [(5, sq 0 (p.2.2.1.length + 1) U), (10, pt 1), (14, sq 2 3 3), (15, .int .i64 k), (16, .int .i64 (p.1 : Nat))] f, heapO 3 [(0, .cells ((p.2.1 :: p.2.2.1).map byV) 5), (1, .cells [lsV 3 p.2.2.2.1, .int .i64 (p.2.2.2.2 : Int)] 74), (2, .cells [trR m.an, trR m.ns, trR m.ar] 23)] [(3, lsO layT p.2.2.2.1)], 4, [], []⟩
theorem zDr {nt : Nat} {s : Fs} {K : Fs -> Prop} (hd : Nat.ble (nt + 1) (2 ^ 8) = true) (h2 : s.T.get 2 = some (.slice none 0 0)) (h3 : s.T.get 3 = some (.int .i64 3)) (hD : s.df = []) (k : ∀ f, K ⟨slots 8 [(2, .slice none 0 0), (3, .int .i64 3)] f, heap 0 [], 0, [], []⟩) : ∃ s2, RcM Try.prog 0 0 nt none s s2 /\ K s2 :=
 zAg (zAz [] (d := 8) (d2 := 0) (lv := [(2, .slice none 0 0), (3, .int .i64 3)]) (bs := []) (W := []) (m := 0) (df := []) hd (bL (aH _)) rfl (fun l e => by cases e) (by decide) (by decide) rfl rfl (fun k _ h => ab h (Nat.not_lt_zero _)) ⟨⟨_, h2, zAf 8 rfl⟩, ⟨_, h3, .int _ _⟩, tv⟩ trivial (by rw [hD]; exact .nil)) k
theorem zJq {σ : Nat -> Nat -> Prop} {b : Nat} (h : σ b 0) (us : Bl) (v : UInt8) (vs : Bl) : RV σ (sq b (us.length + 1 + (v :: vs).length) U) (sq 0 ((us ++ v :: vs).length + 1) U) := by
 rw [show us.length + 1 + (v :: vs).length = (us ++ v :: vs).length + 1 by simp; omega]; exact .sl _ _ _ _ _ h
theorem mwInv.lng {s0 : MwS} {l : List MwI} {k : Nat} {u v : UInt8} {us vs : Bl} {T : List (Bl × Nat)} {en : Nat} (h : mwInv s0 l k ⟨u :: (us ++ v :: vs), T, en⟩) (h2 : decide (((us.length + 1 + (v :: vs).length : Nat) : Int) > 65535) = true) : mwF s0 l = none :=
 h.long (by have h2 : ((us.length + 1 + (v :: vs).length : Nat) : Int) > 65535 := oT h2; show 65535 < (us ++ v :: vs).length + 1; simp at h2 ⊢; omega)
theorem zJl {us vs : Bl} {v : UInt8} (h2 : decide (((us.length + 1 + (v :: vs).length : Nat) : Int) > 65535) = false) : (us ++ v :: vs).length + 1 <= 65535 := by
 have h2 : ¬ ((us.length + 1 + (v :: vs).length : Nat) : Int) > 65535 := oF h2
 simp at h2 ⊢; omega
theorem zFw {σ : Nat -> Nat -> Prop} {b c : Nat} (h : σ b c) (T : List (Bl × Nat)) (en : Nat) : RO Try.prog σ (.cells [lsV b T, .int .i64 (en : Int)] 74) (.cells [lsV c T, .int .i64 (en : Int)] 74) := RO.cells _ [] _ _ (.cons _ _ _ _ (lsV_rv h T) (.cons _ _ _ _ (.int _ _) .nil))
theorem zOp {σ : Nat -> Nat -> Prop} {b c : Nat} (h : σ b c) (T : List (Bl × Nat)) (p : Bl × Nat) (F : List (Bl × Nat)) (en : Nat) : RO Try.prog σ (.cells [sq b (T ++ p :: F).length U, .int .i64 (en : Int)] 74) (.cells [lsV c (T ++ p :: F), .int .i64 (en : Int)] 74) := by
 cases T with
 | nil => exact RO.cells _ [] _ _ (.cons _ _ _ _ (.sl _ _ _ _ _ h) (.cons _ _ _ _ (.int _ _) .nil))
 | cons q T => exact RO.cells _ [] _ _ (.cons _ _ _ _ (.sl _ _ _ _ _ h) (.cons _ _ _ _ (.int _ _) .nil))
theorem zOq {σ : Nat -> Nat -> Prop} {T : List (Bl × Nat)} {o : AObj} (ho : lsO layT T = some o) : RO Try.prog σ (.cells (T.flatMap layT.g) 130) o := by
 cases T with
 | nil => cases ho
 | cons q T => cases ho; exact .same (zBa _)
theorem zTg (m : MsT) (hm : m.okM) (hk : m.fit 1000) : ∃ r, FnS Try.prog 0 13 [m.v] .e 0 r /\ ∃ H k wr b, r = .ret (.tuple #[ovN b m.wr.2, .int .i64 m.wr.1]) H k wr /\ (m.wr.2 ≠ [] -> b < JJ /\ H.get b = some (.cells (m.wr.2.map byV) 5)) := by
 have h1s : (Try.prog.types[5]).size = 1 := by kernel_rfl
 have hby : (Try.prog.types[5]).bytes = 1 := by kernel_rfl
 have hI : m.items.length = m.q.length + (m.an.length + (m.ns.length + m.ar.length)) := by unfold MsT.items; simp
 obtain ⟨k1, k2, k3, k4⟩ := hk
 refine zBh mixed tbMw4 [] Try.func13 (c := bodyOf Try.f13) (by kernel_rfl) ?_
 refine eI m (aI ⟨rfl, hm, ⟨by omega, by omega, by omega, by omega⟩⟩ ?_)
 refine ifK (fun g => ?_) (fun g => ?_)
 ·have g : m.chk ≠ 0 := by have g : (m.chk != 0) = true := g; simpa using g
  have e : m.wr = (m.chk, []) := by unfold MsT.wr; rw [if_pos g]
  rw [e]
  exact ⟨_, _, _, 0, rfl, fun h => ab rfl h⟩
 have g0 : m.chk = 0 := by have g : (m.chk != 0) = false := g; simpa using g
 obtain ⟨c1, c2, c3, c4, c5, c6⟩ := zVa g0
 refine LW.round ?_
 refine zAm tbMw4 [] 0 _ none mixed _ _ _ ?_
 refine eI m.id (aI rfl ?_)
 refine ifK (fun _ => ?_) (fun h => ab (show decide ((0 : Int) <= m.id /\ m.id <= 65535) = false from h) (by rw [aX (⟨by omega, by omega⟩ : (0 : Int) <= m.id /\ m.id <= 65535)]; decide))
 refine LW.round ?_
 refine zAm tbMw4 [] 0 _ none mixed _ _ _ ?_
 refine eI m.fl (aI rfl ?_)
 refine ifK (fun _ => ?_) (fun h => ab (show decide ((0 : Int) <= m.fl /\ m.fl <= 65535) = false from h) (by rw [aX (⟨by omega, by omega⟩ : (0 : Int) <= m.fl /\ m.fl <= 65535)]; decide))
 refine aI (by kernel_rfl) ?_
 refine LW.round ?_
 refine zAm tbMw4 [] 0 _ none mixed _ _ _ ?_
 refine eI (m.q.length : Int) (aI rfl ?_)
 refine ifK (fun _ => ?_) (fun h => ab (show decide ((0 : Int) <= (m.q.length : Int) /\ (m.q.length : Int) <= 65535) = false from h) (by rw [aX (⟨by omega, by omega⟩ : (0 : Int) <= (m.q.length : Int) /\ (m.q.length : Int) <= 65535)]; decide))
 refine aI (by kernel_rfl) ?_
 refine LW.round ?_
 refine zAm tbMw4 [] 0 _ none mixed _ _ _ ?_
 refine eI (m.an.length : Int) (aI rfl ?_)
 refine ifK (fun _ => ?_) (fun h => ab (show decide ((0 : Int) <= (m.an.length : Int) /\ (m.an.length : Int) <= 65535) = false from h) (by rw [aX (⟨by omega, by omega⟩ : (0 : Int) <= (m.an.length : Int) /\ (m.an.length : Int) <= 65535)]; decide))
 refine aI (by kernel_rfl) ?_
 refine LW.round ?_
 refine zAm tbMw4 [] 0 _ none mixed _ _ _ ?_
 refine eI (m.ns.length : Int) (aI rfl ?_)
 refine ifK (fun _ => ?_) (fun h => ab (show decide ((0 : Int) <= (m.ns.length : Int) /\ (m.ns.length : Int) <= 65535) = false from h) (by rw [aX (⟨by omega, by omega⟩ : (0 : Int) <= (m.ns.length : Int) /\ (m.ns.length : Int) <= 65535)]; decide))
 refine aI (by kernel_rfl) ?_
 refine LW.round ?_
 refine zAm tbMw4 [] 0 _ none mixed _ _ _ ?_
 refine eI (m.ar.length : Int) (aI rfl ?_)
 refine ifK (fun _ => ?_) (fun h => ab (show decide ((0 : Int) <= (m.ar.length : Int) /\ (m.ar.length : Int) <= 65535) = false from h) (by rw [aX (⟨by omega, by omega⟩ : (0 : Int) <= (m.ar.length : Int) /\ (m.ar.length : Int) <= 65535)]; decide))
 refine aI (by kernel_rfl) ?_
 refine LW.round ?_
 refine zAm tbMw4 [] 0 _ none mixed _ _ _ ?_
 refine zAn (rwS1 m) (fun p => m.q.length - p.1) (fun p => p.1 <= m.q.length /\ mwInv ⟨m.head, [], 0⟩ m.items (p.1) (rwSt p) /\ p.2.2.1.length + 1 <= 65535) (0, (mwHd m).1, (mwHd m).2, [], 0) ⟨aH _, zVb m, by show 12 <= 65535; decide⟩ ?_ ?_
 ·exact zBi [13, 14, 0, 40] rfl rfl rfl (fun l e => by cases e) (by decide) (by decide) rfl rfl (zGg rfl) ⟨(sP rfl rfl), (sL rfl rfl), (sP rfl rfl), (sI rfl), tv⟩ ⟨⟨by decide, _, rfl, zAv rfl (zAa _)⟩, bpo rfl, ⟨by decide, _, rfl, RO.clos rfl⟩, tv⟩ ⟨fun o ho => (by cases ho), tv⟩ .nil
 rintro ⟨i, u, us, T, en⟩ f ⟨hi, hinv, h65⟩
 have hi : i <= m.q.length := hi
 have h65 : us.length + 1 <= 65535 := h65
 have hinv : mwInv ⟨m.head, [], 0⟩ m.items i ⟨u :: us, T, en⟩ := hinv
 refine zAm tbMw4 [4] 0 _ none mixed _ _ _ ?_
 refine ifK (fun h1 => ?_) (fun h1 => ?_)
 ·have hlt : i < m.q.length := by have h1 : ((i : Nat) : Int) < (m.q.length : Int) := oT h1; omega
  have hiI : i < m.items.length := by omega
  have hit : m.items[i] = .inl m.q[i] := items_q hlt hiI
  refine ifK (fun _ => ?_) (fun h2 => ab h2 (by simp [inI]; omega))
  refine eI m.q[i].n (eI m.q[i].t (eI m.q[i].c (aI (zBm layQ hlt) ?_)))
  obtain ⟨R, hR⟩ : ∃ R, mwD ⟨u :: us, T, en⟩ m.items[i] = R := ⟨_, rfl⟩
  have hD : askD en T ((us.length + 1 : Nat) : Int) m.q[i].n m.q[i].t m.q[i].c = R := by rw [<- hR, hit]; rfl
  obtain ⟨r1, r2, r3, r4, r5⟩ := zFb _ _ hR
  have hok := hm.1 _ (aV hlt)
  have hul : us.length + 1 <= 12 + 70000 * (i) := hinv.hi
  have hTl : T.length <= 800000000 := by have h : T.length <= 2000 * (i) := hinv.tl; omega
  obtain ⟨e, o, F, en'⟩ := R
  by_cases he : e = 0
  ·subst he
   obtain ⟨v, vs, rfl⟩ : ∃ v vs, o = v :: vs := by cases o with | nil => exact ab rfl (r3 rfl) | cons v vs => exact ⟨v, vs, rfl⟩
   have hvl : vs.length + 1 <= 70000 := r1
   have hn := hinv.next hiI hR rfl
   cases F with
   | nil =>
    have hn : mwInv ⟨m.head, [], 0⟩ m.items (i + 1) ⟨u :: (us ++ v :: vs), T, en'⟩ := by simpa only [mwN, aF, bC] using hn
    refine eI (⟨1, en, T, ⟨((us.length + 1 : Nat) : Int), m.q[i].n, m.q[i].t, m.q[i].c⟩, 0, v :: vs, [], en'⟩ : RuY AskY) (aI ⟨rfl, ⟨by kernel_rfl, fun _ => by kernel_rfl⟩, hinv.gd, hTl, hok, hD⟩ ?_)
    refine eI ((v :: vs).map byV) (aI (zAi (l := v :: vs) h1s rfl) ?_)
    refine aI (apC h1s hby (by simp) (by simp) (oneB _) (by simp; omega) (by simp)) ?_
    refine ifK (fun h2 => ?_) (fun h2 => ?_)
    ·refine aI rfl (zDr rfl rfl rfl rfl (fun f => ?_))
     rw [zBk g0 (hn.lng h2)]; exact ⟨_, _, _, 0, rfl, fun h => ab rfl h⟩
    refine ⟨(i + 1, u, us ++ v :: vs, T, en'), ⟨hlt, hn, zJl h2⟩, by show m.q.length - (i + 1) < m.q.length - i; omega, ?_⟩
    exact zBi [5, 1, 2, 3] rfl rfl rfl (fun l e => by cases e) (by decide) (by decide) rfl rfl (zGg rfl) ⟨(sP rfl rfl), ⟨_, rfl, by refine zJq ?_ us v vs; rfl⟩, (sP rfl rfl), zAb rfl (by rw [wrapN (by omega) (by omega)]; omega), tv⟩ ⟨⟨by decide, _, rfl, zAv (by rw [<- zJt u us v vs]; rfl) (zAa _)⟩, ⟨by decide, _, rfl, zFw (by rfl) _ _⟩, ⟨by decide, _, rfl, RO.clos rfl⟩, tv⟩ ⟨zFv layT (by decide) rfl, tv⟩ .nil
   | cons p F =>
    have hn : mwInv ⟨m.head, [], 0⟩ m.items (i + 1) ⟨u :: (us ++ v :: vs), (T ++ p :: F), en'⟩ := by simpa only [mwN, aF, bC] using hn
    refine eI (⟨1, en, T, ⟨((us.length + 1 : Nat) : Int), m.q[i].n, m.q[i].t, m.q[i].c⟩, 0, v :: vs, (p :: F), en'⟩ : RuY AskY) (aI ⟨rfl, ⟨by kernel_rfl, fun _ => by kernel_rfl⟩, hinv.gd, hTl, hok, hD⟩ ?_)
    refine eI ((v :: vs).map byV) (aI (zAi (l := v :: vs) h1s rfl) ?_)
    refine aI (apC h1s hby (by simp) (by simp) (oneB _) (by simp; omega) (by simp)) ?_
    refine ifK (fun h2 => ?_) (fun h2 => ?_)
    ·refine aI rfl (zDr rfl rfl rfl rfl (fun f => ?_))
     rw [zBk g0 (hn.lng h2)]; exact ⟨_, _, _, 0, rfl, fun h => ab rfl h⟩
    refine ⟨(i + 1, u, us ++ v :: vs, (T ++ p :: F), en'), ⟨hlt, hn, zJl h2⟩, by show m.q.length - (i + 1) < m.q.length - i; omega, ?_⟩
    exact zBi [6, 1, 2, 5] rfl rfl rfl (fun l e => by cases e) (by decide) (by decide) rfl rfl (zGg rfl) ⟨(sP rfl rfl), ⟨_, rfl, by refine zJq ?_ us v vs; rfl⟩, (sP rfl rfl), zAb rfl (by rw [wrapN (by omega) (by omega)]; omega), tv⟩ ⟨⟨by decide, _, rfl, zAv (by rw [<- zJt u us v vs]; rfl) (zAa _)⟩, ⟨by decide, _, rfl, zOp (by rfl) _ _ _ _⟩, ⟨by decide, _, rfl, RO.clos rfl⟩, tv⟩ ⟨fun o ho => ⟨by decide, _, rfl, zOq ho⟩, tv⟩ .nil
  have ho : o = [] := r4 he
  subst ho
  cases F with
  | nil =>
   refine eI (⟨1, en, T, ⟨((us.length + 1 : Nat) : Int), m.q[i].n, m.q[i].t, m.q[i].c⟩, e, [], [], en'⟩ : RuY AskY) (aI ⟨rfl, ⟨by kernel_rfl, fun _ => by kernel_rfl⟩, hinv.gd, hTl, hok, hD⟩ ?_)
   refine ifK (fun _ => ?_) (fun g => ab (show (e != 0) = false from g) (by simpa using he))
   refine aI rfl (zDr rfl rfl rfl rfl (fun f => ?_))
   rw [zBk g0 (hinv.bad hiI hR he)]; exact ⟨_, _, _, 0, rfl, fun h => ab rfl h⟩
  | cons p F =>
   refine eI (⟨1, en, T, ⟨((us.length + 1 : Nat) : Int), m.q[i].n, m.q[i].t, m.q[i].c⟩, e, [], (p :: F), en'⟩ : RuY AskY) (aI ⟨rfl, ⟨by kernel_rfl, fun _ => by kernel_rfl⟩, hinv.gd, hTl, hok, hD⟩ ?_)
   refine ifK (fun _ => ?_) (fun g => ab (show (e != 0) = false from g) (by simpa using he))
   refine aI rfl (zDr rfl rfl rfl rfl (fun f => ?_))
   rw [zBk g0 (hinv.bad hiI hR he)]; exact ⟨_, _, _, 0, rfl, fun h => ab rfl h⟩
 have h1 : ¬ i < m.q.length := by have h1 : ¬ ((i : Nat) : Int) < (m.q.length : Int) := oF h1; omega
 have h1 : i = m.q.length := by omega
 subst h1
 refine aI rfl (zAg (zBi [0, 1, 2, 3] rfl rfl rfl (fun l e => by cases e) (by decide) (by decide) rfl rfl (zGg rfl) (d := 8) (d2 := 3) (lv := [(1, pt 2), (5, sq 0 (us.length + 1) U), (10, pt 1)]) (bs := [(0, .cells ((u :: us).map byV) 5), (1, .cells [lsV 3 T, .int .i64 (en : Int)] 74), (2, .cells [.int .i64 m.id, .int .i64 m.fl, trQ m.q, trR m.an, trR m.ns, trR m.ar] 25)]) (bo := [(3, lsO layT T)]) (W := []) (m := 4) (df := []) ⟨(sP rfl rfl), (sL rfl rfl), (sP rfl rfl), tv⟩ ⟨bpo (zAa _), ⟨by decide, _, rfl, zFw (by rfl) _ _⟩, ⟨by decide, _, rfl, RO.clos rfl⟩, tv⟩ ⟨zFv layT (by decide) rfl, tv⟩ .nil) (fun f => ?_))
 refine LW.round ?_
 refine zAm tbMw4 [] 0 _ none mixed _ _ _ ?_
 refine zAn (rwS2 m 0) (fun p => m.an.length - p.1) (fun p => p.1 <= m.an.length /\ mwInv ⟨m.head, [], 0⟩ m.items (m.q.length + p.1) (rwSt p) /\ p.2.2.1.length + 1 <= 65535) (0, u, us, T, en) ⟨aH _, hinv, h65⟩ ?_ ?_
 ·exact zBi [0, 1, 4, 3] rfl rfl rfl (fun l e => by cases e) (by decide) (by decide) rfl rfl (zGg rfl) ⟨(sL rfl rfl), (sP rfl rfl), (sL rfl rfl), (sI rfl), (sI rfl), tv⟩ ⟨bpo (zAa _), ⟨by decide, _, rfl, zFw (by rfl) _ _⟩, ⟨by decide, _, rfl, RO.clos rfl⟩, tv⟩ ⟨zFv layT (by decide) rfl, tv⟩ .nil
 rintro ⟨i, u, us, T, en⟩ f ⟨hi, hinv, h65⟩
 have hi : i <= m.an.length := hi
 have h65 : us.length + 1 <= 65535 := h65
 have hinv : mwInv ⟨m.head, [], 0⟩ m.items (m.q.length + i) ⟨u :: us, T, en⟩ := hinv
 refine zAm tbMw4 [4] 0 _ none mixed _ _ _ ?_
 refine ifK (fun h1 => ?_) (fun h1 => ?_)
 ·have hlt : i < m.an.length := by have h1 : ((i : Nat) : Int) < (m.an.length : Int) := oT h1; omega
  have hiI : m.q.length + i < m.items.length := by omega
  have hit : m.items[m.q.length + i] = .inr m.an[i] := zIq (pre := m.q.map .inl) (post := m.ns.map .inr ++ m.ar.map .inr) (by unfold MsT.items; simp) hlt (by simp <;> omega) hiI
  refine ifK (fun _ => ?_) (fun h2 => ab h2 (by simp [inI]; omega))
  refine eI m.an[i].n (eI m.an[i].t (eI m.an[i].c (eI m.an[i].ttl (eI m.an[i].d (aI (zBm layR hlt) ?_)))))
  obtain ⟨R, hR⟩ : ∃ R, mwD ⟨u :: us, T, en⟩ m.items[m.q.length + i] = R := ⟨_, rfl⟩
  have hD : recD en T ((us.length + 1 : Nat) : Int) m.an[i] = R := by rw [<- hR, hit]; rfl
  obtain ⟨r1, r2, r3, r4, r5⟩ := zFb _ _ hR
  have hok := hm.2.1 _ (aV hlt)
  have hul : us.length + 1 <= 12 + 70000 * (m.q.length + i) := hinv.hi
  have hTl : T.length <= 800000000 := by have h : T.length <= 2000 * (m.q.length + i) := hinv.tl; omega
  obtain ⟨e, o, F, en'⟩ := R
  by_cases he : e = 0
  ·subst he
   obtain ⟨v, vs, rfl⟩ : ∃ v vs, o = v :: vs := by cases o with | nil => exact ab rfl (r3 rfl) | cons v vs => exact ⟨v, vs, rfl⟩
   have hvl : vs.length + 1 <= 70000 := r1
   have hn := hinv.next hiI hR rfl
   cases F with
   | nil =>
    have hn : mwInv ⟨m.head, [], 0⟩ m.items (m.q.length + i + 1) ⟨u :: (us ++ v :: vs), T, en'⟩ := by simpa only [mwN, aF, bC] using hn
    refine eI (⟨1, en, T, ⟨((us.length + 1 : Nat) : Int), m.an[i]⟩, 0, v :: vs, [], en'⟩ : RuY WrtY) (aI ⟨rfl, ⟨by kernel_rfl, fun _ => by kernel_rfl⟩, hinv.gd, hTl, hok, hD⟩ ?_)
    refine eI ((v :: vs).map byV) (aI (zAi (l := v :: vs) h1s rfl) ?_)
    refine aI (apC h1s hby (by simp) (by simp) (oneB _) (by simp; omega) (by simp)) ?_
    refine ifK (fun h2 => ?_) (fun h2 => ?_)
    ·refine aI rfl (zDr rfl rfl rfl rfl (fun f => ?_))
     rw [zBk g0 (hn.lng h2)]; exact ⟨_, _, _, 0, rfl, fun h => ab rfl h⟩
    refine ⟨(i + 1, u, us ++ v :: vs, T, en'), ⟨hlt, hn, zJl h2⟩, by show m.an.length - (i + 1) < m.an.length - i; omega, ?_⟩
    exact zBi [5, 1, 2, 3] rfl rfl rfl (fun l e => by cases e) (by decide) (by decide) rfl rfl (zGg rfl) ⟨⟨_, rfl, by refine zJq ?_ us v vs; rfl⟩, (sP rfl rfl), (sL rfl rfl), (sI rfl), zAb rfl (by rw [wrapN (by omega) (by omega)]; omega), tv⟩ ⟨⟨by decide, _, rfl, zAv (by rw [<- zJt u us v vs]; rfl) (zAa _)⟩, ⟨by decide, _, rfl, zFw (by rfl) _ _⟩, ⟨by decide, _, rfl, RO.clos rfl⟩, tv⟩ ⟨zFv layT (by decide) rfl, tv⟩ .nil
   | cons p F =>
    have hn : mwInv ⟨m.head, [], 0⟩ m.items (m.q.length + i + 1) ⟨u :: (us ++ v :: vs), (T ++ p :: F), en'⟩ := by simpa only [mwN, aF, bC] using hn
    refine eI (⟨1, en, T, ⟨((us.length + 1 : Nat) : Int), m.an[i]⟩, 0, v :: vs, (p :: F), en'⟩ : RuY WrtY) (aI ⟨rfl, ⟨by kernel_rfl, fun _ => by kernel_rfl⟩, hinv.gd, hTl, hok, hD⟩ ?_)
    refine eI ((v :: vs).map byV) (aI (zAi (l := v :: vs) h1s rfl) ?_)
    refine aI (apC h1s hby (by simp) (by simp) (oneB _) (by simp; omega) (by simp)) ?_
    refine ifK (fun h2 => ?_) (fun h2 => ?_)
    ·refine aI rfl (zDr rfl rfl rfl rfl (fun f => ?_))
     rw [zBk g0 (hn.lng h2)]; exact ⟨_, _, _, 0, rfl, fun h => ab rfl h⟩
    refine ⟨(i + 1, u, us ++ v :: vs, (T ++ p :: F), en'), ⟨hlt, hn, zJl h2⟩, by show m.an.length - (i + 1) < m.an.length - i; omega, ?_⟩
    exact zBi [6, 1, 2, 5] rfl rfl rfl (fun l e => by cases e) (by decide) (by decide) rfl rfl (zGg rfl) ⟨⟨_, rfl, by refine zJq ?_ us v vs; rfl⟩, (sP rfl rfl), (sL rfl rfl), (sI rfl), zAb rfl (by rw [wrapN (by omega) (by omega)]; omega), tv⟩ ⟨⟨by decide, _, rfl, zAv (by rw [<- zJt u us v vs]; rfl) (zAa _)⟩, ⟨by decide, _, rfl, zOp (by rfl) _ _ _ _⟩, ⟨by decide, _, rfl, RO.clos rfl⟩, tv⟩ ⟨fun o ho => ⟨by decide, _, rfl, zOq ho⟩, tv⟩ .nil
  have ho : o = [] := r4 he
  subst ho
  cases F with
  | nil =>
   refine eI (⟨1, en, T, ⟨((us.length + 1 : Nat) : Int), m.an[i]⟩, e, [], [], en'⟩ : RuY WrtY) (aI ⟨rfl, ⟨by kernel_rfl, fun _ => by kernel_rfl⟩, hinv.gd, hTl, hok, hD⟩ ?_)
   refine ifK (fun _ => ?_) (fun g => ab (show (e != 0) = false from g) (by simpa using he))
   refine aI rfl (zDr rfl rfl rfl rfl (fun f => ?_))
   rw [zBk g0 (hinv.bad hiI hR he)]; exact ⟨_, _, _, 0, rfl, fun h => ab rfl h⟩
  | cons p F =>
   refine eI (⟨1, en, T, ⟨((us.length + 1 : Nat) : Int), m.an[i]⟩, e, [], (p :: F), en'⟩ : RuY WrtY) (aI ⟨rfl, ⟨by kernel_rfl, fun _ => by kernel_rfl⟩, hinv.gd, hTl, hok, hD⟩ ?_)
   refine ifK (fun _ => ?_) (fun g => ab (show (e != 0) = false from g) (by simpa using he))
   refine aI rfl (zDr rfl rfl rfl rfl (fun f => ?_))
   rw [zBk g0 (hinv.bad hiI hR he)]; exact ⟨_, _, _, 0, rfl, fun h => ab rfl h⟩
 have h1 : ¬ i < m.an.length := by have h1 : ¬ ((i : Nat) : Int) < (m.an.length : Int) := oF h1; omega
 have h1 : i = m.an.length := by omega
 subst h1
 refine aI rfl (zAg (zBi [0, 1, 2, 3] rfl rfl rfl (fun l e => by cases e) (by decide) (by decide) rfl rfl (zGg rfl) (d := 8) (d2 := 3) (lv := [(5, sq 0 (us.length + 1) U), (10, pt 1), (14, sq 2 3 3), (15, .int .i64 0)]) (bs := [(0, .cells ((u :: us).map byV) 5), (1, .cells [lsV 3 T, .int .i64 (en : Int)] 74), (2, .cells [trR m.an, trR m.ns, trR m.ar] 23)]) (bo := [(3, lsO layT T)]) (W := []) (m := 4) (df := []) ⟨(sL rfl rfl), (sP rfl rfl), (sL rfl rfl), (sI rfl), tv⟩ ⟨bpo (zAa _), ⟨by decide, _, rfl, zFw (by rfl) _ _⟩, ⟨by decide, _, rfl, RO.clos rfl⟩, tv⟩ ⟨zFv layT (by decide) rfl, tv⟩ .nil) (fun f => ?_))
 refine LW.round ?_
 refine zAm tbMw4 [] 0 _ none mixed _ _ _ ?_
 refine zAn (rwS2 m 1) (fun p => m.ns.length - p.1) (fun p => p.1 <= m.ns.length /\ mwInv ⟨m.head, [], 0⟩ m.items (m.q.length + m.an.length + p.1) (rwSt p) /\ p.2.2.1.length + 1 <= 65535) (0, u, us, T, en) ⟨aH _, hinv, h65⟩ ?_ ?_
 ·exact zBi [0, 1, 2, 3] rfl rfl rfl (fun l e => by cases e) (by decide) (by decide) rfl rfl (zGg rfl) ⟨(sL rfl rfl), (sP rfl rfl), (sL rfl rfl), (sI rfl), (sI rfl), tv⟩ ⟨bpo (zAa _), ⟨by decide, _, rfl, zFw (by rfl) _ _⟩, ⟨by decide, _, rfl, RO.clos rfl⟩, tv⟩ ⟨zFv layT (by decide) rfl, tv⟩ .nil
 rintro ⟨i, u, us, T, en⟩ f ⟨hi, hinv, h65⟩
 have hi : i <= m.ns.length := hi
 have h65 : us.length + 1 <= 65535 := h65
 have hinv : mwInv ⟨m.head, [], 0⟩ m.items (m.q.length + m.an.length + i) ⟨u :: us, T, en⟩ := hinv
 refine zAm tbMw4 [4] 0 _ none mixed _ _ _ ?_
 refine ifK (fun h1 => ?_) (fun h1 => ?_)
 ·have hlt : i < m.ns.length := by have h1 : ((i : Nat) : Int) < (m.ns.length : Int) := oT h1; omega
  have hiI : m.q.length + m.an.length + i < m.items.length := by omega
  have hit : m.items[m.q.length + m.an.length + i] = .inr m.ns[i] := zIq (pre := m.q.map .inl ++ m.an.map .inr) (post := m.ar.map .inr) (by unfold MsT.items; simp) hlt (by simp <;> omega) hiI
  refine ifK (fun _ => ?_) (fun h2 => ab h2 (by simp [inI]; omega))
  refine eI m.ns[i].n (eI m.ns[i].t (eI m.ns[i].c (eI m.ns[i].ttl (eI m.ns[i].d (aI (zBm layR hlt) ?_)))))
  obtain ⟨R, hR⟩ : ∃ R, mwD ⟨u :: us, T, en⟩ m.items[m.q.length + m.an.length + i] = R := ⟨_, rfl⟩
  have hD : recD en T ((us.length + 1 : Nat) : Int) m.ns[i] = R := by rw [<- hR, hit]; rfl
  obtain ⟨r1, r2, r3, r4, r5⟩ := zFb _ _ hR
  have hok := hm.2.2.1 _ (aV hlt)
  have hul : us.length + 1 <= 12 + 70000 * (m.q.length + m.an.length + i) := hinv.hi
  have hTl : T.length <= 800000000 := by have h : T.length <= 2000 * (m.q.length + m.an.length + i) := hinv.tl; omega
  obtain ⟨e, o, F, en'⟩ := R
  by_cases he : e = 0
  ·subst he
   obtain ⟨v, vs, rfl⟩ : ∃ v vs, o = v :: vs := by cases o with | nil => exact ab rfl (r3 rfl) | cons v vs => exact ⟨v, vs, rfl⟩
   have hvl : vs.length + 1 <= 70000 := r1
   have hn := hinv.next hiI hR rfl
   cases F with
   | nil =>
    have hn : mwInv ⟨m.head, [], 0⟩ m.items (m.q.length + m.an.length + i + 1) ⟨u :: (us ++ v :: vs), T, en'⟩ := by simpa only [mwN, aF, bC] using hn
    refine eI (⟨1, en, T, ⟨((us.length + 1 : Nat) : Int), m.ns[i]⟩, 0, v :: vs, [], en'⟩ : RuY WrtY) (aI ⟨rfl, ⟨by kernel_rfl, fun _ => by kernel_rfl⟩, hinv.gd, hTl, hok, hD⟩ ?_)
    refine eI ((v :: vs).map byV) (aI (zAi (l := v :: vs) h1s rfl) ?_)
    refine aI (apC h1s hby (by simp) (by simp) (oneB _) (by simp; omega) (by simp)) ?_
    refine ifK (fun h2 => ?_) (fun h2 => ?_)
    ·refine aI rfl (zDr rfl rfl rfl rfl (fun f => ?_))
     rw [zBk g0 (hn.lng h2)]; exact ⟨_, _, _, 0, rfl, fun h => ab rfl h⟩
    refine ⟨(i + 1, u, us ++ v :: vs, T, en'), ⟨hlt, hn, zJl h2⟩, by show m.ns.length - (i + 1) < m.ns.length - i; omega, ?_⟩
    exact zBi [5, 1, 2, 3] rfl rfl rfl (fun l e => by cases e) (by decide) (by decide) rfl rfl (zGg rfl) ⟨⟨_, rfl, by refine zJq ?_ us v vs; rfl⟩, (sP rfl rfl), (sL rfl rfl), (sI rfl), zAb rfl (by rw [wrapN (by omega) (by omega)]; omega), tv⟩ ⟨⟨by decide, _, rfl, zAv (by rw [<- zJt u us v vs]; rfl) (zAa _)⟩, ⟨by decide, _, rfl, zFw (by rfl) _ _⟩, ⟨by decide, _, rfl, RO.clos rfl⟩, tv⟩ ⟨zFv layT (by decide) rfl, tv⟩ .nil
   | cons p F =>
    have hn : mwInv ⟨m.head, [], 0⟩ m.items (m.q.length + m.an.length + i + 1) ⟨u :: (us ++ v :: vs), (T ++ p :: F), en'⟩ := by simpa only [mwN, aF, bC] using hn
    refine eI (⟨1, en, T, ⟨((us.length + 1 : Nat) : Int), m.ns[i]⟩, 0, v :: vs, (p :: F), en'⟩ : RuY WrtY) (aI ⟨rfl, ⟨by kernel_rfl, fun _ => by kernel_rfl⟩, hinv.gd, hTl, hok, hD⟩ ?_)
    refine eI ((v :: vs).map byV) (aI (zAi (l := v :: vs) h1s rfl) ?_)
    refine aI (apC h1s hby (by simp) (by simp) (oneB _) (by simp; omega) (by simp)) ?_
    refine ifK (fun h2 => ?_) (fun h2 => ?_)
    ·refine aI rfl (zDr rfl rfl rfl rfl (fun f => ?_))
     rw [zBk g0 (hn.lng h2)]; exact ⟨_, _, _, 0, rfl, fun h => ab rfl h⟩
    refine ⟨(i + 1, u, us ++ v :: vs, (T ++ p :: F), en'), ⟨hlt, hn, zJl h2⟩, by show m.ns.length - (i + 1) < m.ns.length - i; omega, ?_⟩
    exact zBi [6, 1, 2, 5] rfl rfl rfl (fun l e => by cases e) (by decide) (by decide) rfl rfl (zGg rfl) ⟨⟨_, rfl, by refine zJq ?_ us v vs; rfl⟩, (sP rfl rfl), (sL rfl rfl), (sI rfl), zAb rfl (by rw [wrapN (by omega) (by omega)]; omega), tv⟩ ⟨⟨by decide, _, rfl, zAv (by rw [<- zJt u us v vs]; rfl) (zAa _)⟩, ⟨by decide, _, rfl, zOp (by rfl) _ _ _ _⟩, ⟨by decide, _, rfl, RO.clos rfl⟩, tv⟩ ⟨fun o ho => ⟨by decide, _, rfl, zOq ho⟩, tv⟩ .nil
  have ho : o = [] := r4 he
  subst ho
  cases F with
  | nil =>
   refine eI (⟨1, en, T, ⟨((us.length + 1 : Nat) : Int), m.ns[i]⟩, e, [], [], en'⟩ : RuY WrtY) (aI ⟨rfl, ⟨by kernel_rfl, fun _ => by kernel_rfl⟩, hinv.gd, hTl, hok, hD⟩ ?_)
   refine ifK (fun _ => ?_) (fun g => ab (show (e != 0) = false from g) (by simpa using he))
   refine aI rfl (zDr rfl rfl rfl rfl (fun f => ?_))
   rw [zBk g0 (hinv.bad hiI hR he)]; exact ⟨_, _, _, 0, rfl, fun h => ab rfl h⟩
  | cons p F =>
   refine eI (⟨1, en, T, ⟨((us.length + 1 : Nat) : Int), m.ns[i]⟩, e, [], (p :: F), en'⟩ : RuY WrtY) (aI ⟨rfl, ⟨by kernel_rfl, fun _ => by kernel_rfl⟩, hinv.gd, hTl, hok, hD⟩ ?_)
   refine ifK (fun _ => ?_) (fun g => ab (show (e != 0) = false from g) (by simpa using he))
   refine aI rfl (zDr rfl rfl rfl rfl (fun f => ?_))
   rw [zBk g0 (hinv.bad hiI hR he)]; exact ⟨_, _, _, 0, rfl, fun h => ab rfl h⟩
 have h1 : ¬ i < m.ns.length := by have h1 : ¬ ((i : Nat) : Int) < (m.ns.length : Int) := oF h1; omega
 have h1 : i = m.ns.length := by omega
 subst h1
 refine aI rfl (zAg (zBi [0, 1, 2, 3] rfl rfl rfl (fun l e => by cases e) (by decide) (by decide) rfl rfl (zGg rfl) (d := 8) (d2 := 3) (lv := [(5, sq 0 (us.length + 1) U), (10, pt 1), (14, sq 2 3 3), (15, .int .i64 1)]) (bs := [(0, .cells ((u :: us).map byV) 5), (1, .cells [lsV 3 T, .int .i64 (en : Int)] 74), (2, .cells [trR m.an, trR m.ns, trR m.ar] 23)]) (bo := [(3, lsO layT T)]) (W := []) (m := 4) (df := []) ⟨(sL rfl rfl), (sP rfl rfl), (sL rfl rfl), (sI rfl), tv⟩ ⟨bpo (zAa _), ⟨by decide, _, rfl, zFw (by rfl) _ _⟩, ⟨by decide, _, rfl, RO.clos rfl⟩, tv⟩ ⟨zFv layT (by decide) rfl, tv⟩ .nil) (fun f => ?_))
 refine LW.round ?_
 refine zAm tbMw4 [] 0 _ none mixed _ _ _ ?_
 refine zAn (rwS2 m 2) (fun p => m.ar.length - p.1) (fun p => p.1 <= m.ar.length /\ mwInv ⟨m.head, [], 0⟩ m.items (m.q.length + m.an.length + m.ns.length + p.1) (rwSt p) /\ p.2.2.1.length + 1 <= 65535) (0, u, us, T, en) ⟨aH _, hinv, h65⟩ ?_ ?_
 ·exact zBi [0, 1, 2, 3] rfl rfl rfl (fun l e => by cases e) (by decide) (by decide) rfl rfl (zGg rfl) ⟨(sL rfl rfl), (sP rfl rfl), (sL rfl rfl), (sI rfl), (sI rfl), tv⟩ ⟨bpo (zAa _), ⟨by decide, _, rfl, zFw (by rfl) _ _⟩, ⟨by decide, _, rfl, RO.clos rfl⟩, tv⟩ ⟨zFv layT (by decide) rfl, tv⟩ .nil
 rintro ⟨i, u, us, T, en⟩ f ⟨hi, hinv, h65⟩
 have hi : i <= m.ar.length := hi
 have h65 : us.length + 1 <= 65535 := h65
 have hinv : mwInv ⟨m.head, [], 0⟩ m.items (m.q.length + m.an.length + m.ns.length + i) ⟨u :: us, T, en⟩ := hinv
 refine zAm tbMw4 [4] 0 _ none mixed _ _ _ ?_
 refine ifK (fun h1 => ?_) (fun h1 => ?_)
 ·have hlt : i < m.ar.length := by have h1 : ((i : Nat) : Int) < (m.ar.length : Int) := oT h1; omega
  have hiI : m.q.length + m.an.length + m.ns.length + i < m.items.length := by omega
  have hit : m.items[m.q.length + m.an.length + m.ns.length + i] = .inr m.ar[i] := zIq (pre := m.q.map .inl ++ (m.an.map .inr ++ m.ns.map .inr)) (post := []) (by unfold MsT.items; simp) hlt (by simp <;> omega) hiI
  refine ifK (fun _ => ?_) (fun h2 => ab h2 (by simp [inI]; omega))
  refine eI m.ar[i].n (eI m.ar[i].t (eI m.ar[i].c (eI m.ar[i].ttl (eI m.ar[i].d (aI (zBm layR hlt) ?_)))))
  obtain ⟨R, hR⟩ : ∃ R, mwD ⟨u :: us, T, en⟩ m.items[m.q.length + m.an.length + m.ns.length + i] = R := ⟨_, rfl⟩
  have hD : recD en T ((us.length + 1 : Nat) : Int) m.ar[i] = R := by rw [<- hR, hit]; rfl
  obtain ⟨r1, r2, r3, r4, r5⟩ := zFb _ _ hR
  have hok := hm.2.2.2 _ (aV hlt)
  have hul : us.length + 1 <= 12 + 70000 * (m.q.length + m.an.length + m.ns.length + i) := hinv.hi
  have hTl : T.length <= 800000000 := by have h : T.length <= 2000 * (m.q.length + m.an.length + m.ns.length + i) := hinv.tl; omega
  obtain ⟨e, o, F, en'⟩ := R
  by_cases he : e = 0
  ·subst he
   obtain ⟨v, vs, rfl⟩ : ∃ v vs, o = v :: vs := by cases o with | nil => exact ab rfl (r3 rfl) | cons v vs => exact ⟨v, vs, rfl⟩
   have hvl : vs.length + 1 <= 70000 := r1
   have hn := hinv.next hiI hR rfl
   cases F with
   | nil =>
    have hn : mwInv ⟨m.head, [], 0⟩ m.items (m.q.length + m.an.length + m.ns.length + i + 1) ⟨u :: (us ++ v :: vs), T, en'⟩ := by simpa only [mwN, aF, bC] using hn
    refine eI (⟨1, en, T, ⟨((us.length + 1 : Nat) : Int), m.ar[i]⟩, 0, v :: vs, [], en'⟩ : RuY WrtY) (aI ⟨rfl, ⟨by kernel_rfl, fun _ => by kernel_rfl⟩, hinv.gd, hTl, hok, hD⟩ ?_)
    refine eI ((v :: vs).map byV) (aI (zAi (l := v :: vs) h1s rfl) ?_)
    refine aI (apC h1s hby (by simp) (by simp) (oneB _) (by simp; omega) (by simp)) ?_
    refine ifK (fun h2 => ?_) (fun h2 => ?_)
    ·refine aI rfl (zDr rfl rfl rfl rfl (fun f => ?_))
     rw [zBk g0 (hn.lng h2)]; exact ⟨_, _, _, 0, rfl, fun h => ab rfl h⟩
    refine ⟨(i + 1, u, us ++ v :: vs, T, en'), ⟨hlt, hn, zJl h2⟩, by show m.ar.length - (i + 1) < m.ar.length - i; omega, ?_⟩
    exact zBi [5, 1, 2, 3] rfl rfl rfl (fun l e => by cases e) (by decide) (by decide) rfl rfl (zGg rfl) ⟨⟨_, rfl, by refine zJq ?_ us v vs; rfl⟩, (sP rfl rfl), (sL rfl rfl), (sI rfl), zAb rfl (by rw [wrapN (by omega) (by omega)]; omega), tv⟩ ⟨⟨by decide, _, rfl, zAv (by rw [<- zJt u us v vs]; rfl) (zAa _)⟩, ⟨by decide, _, rfl, zFw (by rfl) _ _⟩, ⟨by decide, _, rfl, RO.clos rfl⟩, tv⟩ ⟨zFv layT (by decide) rfl, tv⟩ .nil
   | cons p F =>
    have hn : mwInv ⟨m.head, [], 0⟩ m.items (m.q.length + m.an.length + m.ns.length + i + 1) ⟨u :: (us ++ v :: vs), (T ++ p :: F), en'⟩ := by simpa only [mwN, aF, bC] using hn
    refine eI (⟨1, en, T, ⟨((us.length + 1 : Nat) : Int), m.ar[i]⟩, 0, v :: vs, (p :: F), en'⟩ : RuY WrtY) (aI ⟨rfl, ⟨by kernel_rfl, fun _ => by kernel_rfl⟩, hinv.gd, hTl, hok, hD⟩ ?_)
    refine eI ((v :: vs).map byV) (aI (zAi (l := v :: vs) h1s rfl) ?_)
    refine aI (apC h1s hby (by simp) (by simp) (oneB _) (by simp; omega) (by simp)) ?_
    refine ifK (fun h2 => ?_) (fun h2 => ?_)
    ·refine aI rfl (zDr rfl rfl rfl rfl (fun f => ?_))
     rw [zBk g0 (hn.lng h2)]; exact ⟨_, _, _, 0, rfl, fun h => ab rfl h⟩
    refine ⟨(i + 1, u, us ++ v :: vs, (T ++ p :: F), en'), ⟨hlt, hn, zJl h2⟩, by show m.ar.length - (i + 1) < m.ar.length - i; omega, ?_⟩
    exact zBi [6, 1, 2, 5] rfl rfl rfl (fun l e => by cases e) (by decide) (by decide) rfl rfl (zGg rfl) ⟨⟨_, rfl, by refine zJq ?_ us v vs; rfl⟩, (sP rfl rfl), (sL rfl rfl), (sI rfl), zAb rfl (by rw [wrapN (by omega) (by omega)]; omega), tv⟩ ⟨⟨by decide, _, rfl, zAv (by rw [<- zJt u us v vs]; rfl) (zAa _)⟩, ⟨by decide, _, rfl, zOp (by rfl) _ _ _ _⟩, ⟨by decide, _, rfl, RO.clos rfl⟩, tv⟩ ⟨fun o ho => ⟨by decide, _, rfl, zOq ho⟩, tv⟩ .nil
  have ho : o = [] := r4 he
  subst ho
  cases F with
  | nil =>
   refine eI (⟨1, en, T, ⟨((us.length + 1 : Nat) : Int), m.ar[i]⟩, e, [], [], en'⟩ : RuY WrtY) (aI ⟨rfl, ⟨by kernel_rfl, fun _ => by kernel_rfl⟩, hinv.gd, hTl, hok, hD⟩ ?_)
   refine ifK (fun _ => ?_) (fun g => ab (show (e != 0) = false from g) (by simpa using he))
   refine aI rfl (zDr rfl rfl rfl rfl (fun f => ?_))
   rw [zBk g0 (hinv.bad hiI hR he)]; exact ⟨_, _, _, 0, rfl, fun h => ab rfl h⟩
  | cons p F =>
   refine eI (⟨1, en, T, ⟨((us.length + 1 : Nat) : Int), m.ar[i]⟩, e, [], (p :: F), en'⟩ : RuY WrtY) (aI ⟨rfl, ⟨by kernel_rfl, fun _ => by kernel_rfl⟩, hinv.gd, hTl, hok, hD⟩ ?_)
   refine ifK (fun _ => ?_) (fun g => ab (show (e != 0) = false from g) (by simpa using he))
   refine aI rfl (zDr rfl rfl rfl rfl (fun f => ?_))
   rw [zBk g0 (hinv.bad hiI hR he)]; exact ⟨_, _, _, 0, rfl, fun h => ab rfl h⟩
 have h1 : ¬ i < m.ar.length := by have h1 : ¬ ((i : Nat) : Int) < (m.ar.length : Int) := oF h1; omega
 have h1 : i = m.ar.length := by omega
 subst h1
 refine aI rfl (zAg (zBi [0, 1, 2, 3] rfl rfl rfl (fun l e => by cases e) (by decide) (by decide) rfl rfl (zGg rfl) (d := 8) (d2 := 3) (lv := [(5, sq 0 (us.length + 1) U), (10, pt 1), (14, sq 2 3 3), (15, .int .i64 2)]) (bs := [(0, .cells ((u :: us).map byV) 5), (1, .cells [lsV 3 T, .int .i64 (en : Int)] 74), (2, .cells [trR m.an, trR m.ns, trR m.ar] 23)]) (bo := [(3, lsO layT T)]) (W := []) (m := 4) (df := []) ⟨(sL rfl rfl), (sP rfl rfl), (sL rfl rfl), (sI rfl), tv⟩ ⟨bpo (zAa _), ⟨by decide, _, rfl, zFw (by rfl) _ _⟩, ⟨by decide, _, rfl, RO.clos rfl⟩, tv⟩ ⟨zFv layT (by decide) rfl, tv⟩ .nil) (fun f => ?_))
 refine LW.round ?_
 refine zAm tbMw4 [] 0 _ none mixed _ _ _ ?_
 have hI' : m.q.length + m.an.length + m.ns.length + m.ar.length = m.items.length := by omega
 have hinv : mwInv ⟨m.head, [], 0⟩ m.items m.items.length ⟨u :: us, T, en⟩ := hI' ▸ hinv
 rw [wr_some g0 (hinv.fin h65)]
 exact ⟨_, _, _, 0, rfl, fun _ => ⟨by decide, rfl⟩⟩
end
section
open Go Go.RowKit
def mwOut (e : Int) (o : Bl) (H : Tr AObj) (n : Nat) : Res := match o with
 | [] => .ret (.tuple #[.slice none 0 0, .int .i64 e]) H n []
 | u :: us => .ret (.tuple #[sq n (us.length + 1) U, .int .i64 e]) (layN H n [((u :: us).map byV, 5)]) (n + 1) []
theorem mw_call {f : FuncId} {x : LtM} {e : Int} {o : Bl} {H : Tr AObj} {n : Nat} (h : x.at H) (hw : ∃ r, FnS Try.prog 0 f [x.m.v] .e 0 r /\ ∃ H k wr b, r = .ret (.tuple #[ovN b o, .int .i64 e]) H k wr /\ (o ≠ [] -> b < JJ /\ H.get b = some (.cells (o.map byV) 5))) : CallOK Try.prog 0 f [x.v] H n (mwOut e o H n) := by
 obtain ⟨r, hF, H', k, wr, b, rfl, hb⟩ := hw
 cases o with
 | nil => exact zKo hF (.cons _ _ _ _ (LtM.frz h) .nil) (.one _ _ (.plain _ rfl))
 | cons u us =>
  obtain ⟨hJ, hg⟩ := hb (aZ _ _)
  exact zFq (fun n => .tuple #[sq n (us.length + 1) U, .int .i64 e]) [b] [((u :: us).map byV, 5)] hF (.cons _ _ _ _ (LtM.frz h) .nil) (by simp) (fun x hx => by simp at hx; subst hx; exact hJ) rfl
   (fun i b' xs e hb hc => by
    match i, hb, hc with
    | 0, hb, hc => cases hb; cases hc; exact ⟨[], by rw [aF]; exact hg, zAa _, .inl rfl⟩
    | i + 1, hb, hc => simp at hb)
   (fun n => .tuple _ _ (.cons _ _ _ _ (.sl _ _ _ _ _ (zDf (i := 0) (by simp) rfl)) (.cons _ _ _ _ (.plain _ rfl) .nil)))
noncomputable def ct_mw (f : FuncId) (hf : ∀ m : MsT, m.okM -> m.fit 1000 -> ∃ r, FnS Try.prog 0 f [m.v] .e 0 r /\ ∃ H k wr b, r = .ret (.tuple #[ovN b m.wr.2, .int .i64 m.wr.1]) H k wr /\ (m.wr.2 ≠ [] -> b < JJ /\ H.get b = some (.cells (m.wr.2.map byV) 5))) : Ct Try.prog 0 :=
 CtR.ct { f := f, X := LtM × Int × Bl, pre := fun x a H _ => a = [x.1.v] /\ x.1.at H /\ x.1.m.okM /\ x.1.m.fit 1000 /\ x.1.m.wr = (x.2.1, x.2.2), out := fun x H n => mwOut x.2.1 x.2.2 H n,
          ok := fun x a H n ⟨h1, h2, h3, h4, h5⟩ => by
           subst h1
           obtain ⟨x, e, o⟩ := x
           have h5 : x.m.wr = (e, o) := h5
           have := hf x.m h3 h4
           rw [h5] at this
           have hc : CallOK Try.prog 0 f [x.v] H n (mwOut e o H n) := mw_call h2 this
           cases o <;> exact hc,
          uniq := fun x y a H n ⟨h1, h2, _, _, h5⟩ ⟨k1, k2, _, _, k5⟩ => by
           rw [h1] at k1
           obtain ⟨x, e, o⟩ := x
           obtain ⟨y, e', o'⟩ := y
           simp only [aQ, and_true] at k1
           have := LtM.uniq k1 h2 k2
           subst this
           have := h5.symm.trans k5
           simp only [Prod.mk.injEq] at this
           obtain ⟨rfl, rfl⟩ := this
           rfl }
noncomputable def zSk : Ct Try.prog 0 := ct_mw 12 zXa
noncomputable def zQa : Ct Try.prog 0 := ct_mw 13 zTg
end
section
open Go Go.RowKit
end
section
open Go Go.RowKit
def rc0 : RcX := ⟨⟨#[]⟩, 0, 0, 0, ⟨#[]⟩⟩
def rc7 : RcX := ⟨⟨#[]⟩, 7, 0, 0, ⟨#[]⟩⟩
def qu0 : QuX := ⟨⟨#[]⟩, 0, 0⟩
def qu7 : QuX := ⟨⟨#[]⟩, 7, 0⟩
theorem zLo : TyIs Try.prog 69 5 56 rc0.v := zTy (by kernel_rfl)
theorem zRb : TyIs Try.prog 57 3 32 qu0.v := zTy (by kernel_rfl)
def roomC {α : Type} (L : Lay α) (x0 x7 : α) (l : List α) : List Value := (l ++ [x7, x0]).flatMap L.g
section
variable {P : Program} {ev : Operand -> Value} {G : Gh} {n : Nat} {o : Oper}
theorem mk_room {α : Type} (L : Lay α) (x0 : α) {t e : TypeId} {x y : Operand} {k k' : IntKind} {c : Int} {bytes m : Nat} {z : Value} (ht : TyIs P e L.k bytes z) (hz : L.g x0 = z.cells.toList) (ho : o.op = .makeSlice t x y) (hx : ev x = .int k 0) (hy : ev y = .int k' c) (hu : P.underlying t = some (.slice e))
  (hc : c = (m : Int)) (h1 : (bytes : Int) * m <= 281474976710656) (h2 : m <= 9223372036854775807) :
  aop P o ev G n = .val (sq n 0 m) [(n, some (.cells ((List.replicate m x0).flatMap L.g) e))] 1 := by
 subst hc
 refine aop_make ho hx hy hu ht ⟨Int.le_refl _, by omega, h1, by omega⟩ ?_ (zAc L.g L.plain _) rfl
 exact made_lay L x0 hz m
theorem oneL_flat {α : Type} {g : α -> List Value} (h : ∀ x, oneL (g x) = true) (l : List α) : oneL (l.flatMap g) = true := by
 induction l with
 | nil => rfl
 | cons x l ih =>
  have h1 := h x
  unfold oneL at h1 ih ⊢
  rw [List.flatMap_cons, List.all_append, h1, ih]; rfl
theorem zIm {α : Type} (L : Lay α) (hone : ∀ x, oneL (L.g x) = true) {a x : Operand} {sT xT e : TypeId} {b k k' c : Nat} {C C' ys : List α} {bytes : Nat} {z : Value} {xv : Value} (ht : TyIs P e L.k bytes z) (hzs : z.cells.size = L.k) (ho : o.op = .call { callee := .builtin .append, args := #[a, x], argTypes := #[sT, xT] }) (ha : ev a = sq b k c) (hx : ev x = xv)
  (hu : P.underlying sT = some (.slice e)) (hn : notInt P xT = true) (hsrc : zAq G L.k xv = some (ys.length, ys.flatMap L.g)) (hm : ys.length ≠ 0) (hcU : c ≠ U) (hroom : k + ys.length <= c) (hg : G b = some (.cells (C.flatMap L.g) e)) (hl : k + ys.length <= C.length) (hk : k + ys.length = k') (hC : C.take k ++ ys ++ C.drop k' = C') :
  aop P o ev G n = .val (sq b k' c) [(b, some (.cells (C'.flatMap L.g) e))] 0 := by
 subst hk; subst hC
 have hp := L.pos
 refine aop_room ho ha hx hu hn ht (by omega) hzs hsrc hm hcU hroom hg ?_ (oneL_flat hone _) ?_
 ·rw [zAe L.g L.k L.len, zAe L.g L.k L.len, aS, <- Nat.add_mul]
  exact Nat.mul_le_mul_right _ hl
 rw [aS, zAe L.g L.k L.len]
 exact flat_over L C ys k hl
end
theorem zTc (x : RcX) : oneL (layR.g x) = true := rfl
theorem one_qu (x : QuX) : oneL (layQ.g x) = true := rfl
end
section
open Go Go.RowKit
theorem zKd {α : Type} (L : Lay α) (x0 x7 : α) (l : List α) : roomC L x0 x7 l = [] ++ l.flatMap L.g ++ [x7, x0].flatMap L.g := by unfold roomC; rw [List.flatMap_append, List.nil_append]
theorem wrap1 {n : Nat} (h : n <= 1048576) : IntKind.i64.wrap ((n : Int) + 1) = ((n + 1 : Nat) : Int) := by rw [wrapM (by omega) (by omega)]; omega
theorem wrap2 {n : Nat} (h : n <= 1048576) : IntKind.i64.wrap ((((n + 1 : Nat) : Int).toNat - Int.toNat 0 : Nat) - 1 : Int) = (n : Int) := by
 have e : (((n + 1 : Nat) : Int).toNat - Int.toNat 0) = n + 1 := by rw [aO]; rfl
 rw [e, wrapM (by omega) (by omega)]; omega
theorem spare0 {n : Nat} (h : n <= 1048576) : ¬ Nat.beq (n + 2) U = true := fun g => by have g := aA g; unfold U at g; omega
theorem spare1 {n : Nat} (h : n <= 1048576) : (inLH 0 (IntKind.i64.wrap ((n : Int) + 1)) (n + 2) && n.ble (n + 2) && (n + 2 - Int.toNat 0).blt 1180591620717411303424) = true := by
 rw [wrap1 h]
 simp only [inLH, bA, dT]
 exact ⟨⟨⟨⟨by omega, by omega⟩, by omega⟩, bL (by omega)⟩, bL (by show n + 2 - 0 + 1 <= _; omega)⟩
theorem spare2 {n : Nat} (h : n <= 1048576) : inI (IntKind.i64.wrap (((IntKind.i64.wrap ((n : Int) + 1)).toNat - Int.toNat 0 : Nat) - 1 : Int)) ((IntKind.i64.wrap ((n : Int) + 1)).toNat - Int.toNat 0) = true := by
 rw [wrap1 h, wrap2 h, aO]
 simp [inI]
 omega
theorem spare3 {α : Type} (L : Lay α) (x0 x7 : α) (l : List α) (off sz : Nat) (hs : sz = L.k) (ho : off < L.k) (h : l.length <= 1048576) :
  (roomC L x0 x7 l)[(bif (l.length + 2).beq (Int.toNat 0) then 0 else 0 + Int.toNat 0 * sz) + (IntKind.i64.wrap (((IntKind.i64.wrap ((l.length : Int) + 1)).toNat - Int.toNat 0 : Nat) - 1 : Int)).toNat * sz + off]? = (L.g x7)[off]? := by
 subst hs
 have e0 : (l.length + 2).beq (Int.toNat 0) = false := rfl
 rw [e0, cF, wrap1 h, wrap2 h, aO, show Int.toNat 0 = 0 from rfl, Nat.zero_mul, aS]
 unfold roomC
 rw [List.flatMap_append, List.getElem?_append_right (by rw [zAe L.g L.k L.len]; omega), zAe L.g L.k L.len, show l.length * L.k + off - l.length * L.k = off by omega, List.flatMap_cons, List.getElem?_append_left (by rw [L.len]; exact ho)]
end
section
open Go Go.RowKit
noncomputable def tbCm : Tb Try.prog 0 := tbOf mixed []
theorem zPx (l : List RcX) (hl : l.length <= 1048576) : ∃ r, FnS Try.prog 0 41 [trR l] .e 0 r /\
  ∃ H m wr, r = .ret (sq 0 l.length (l.length + 2)) H m wr /\ H.get 0 = some (.cells (roomC layR rc0 rc7 l) 69) := by
 have e2 : IntKind.i64.wrap ((l.length : Int) + 2) = ((l.length + 2 : Nat) : Int) := by rw [wrapM (by omega) (by omega)]; omega
 refine zBh mixed tbCm [900001, 900002] Try.func41 (c := bodyOf Try.f41) (by kernel_rfl) ?_
 refine eI (sq 0 0 (l.length + 2)) (eI [(0, some (.cells ((List.replicate (l.length + 2) rc0).flatMap layR.g) 69))] (eI 1 (aI ?_ ?_)))
 ·exact mk_room layR rc0 zLo rfl rfl rfl rfl (by kernel_rfl) e2 (by omega) (by omega)
 by_cases hz : l.length = 0
 ·have hz : l = [] := List.length_eq_zero_iff.1 hz
  subst hz
  refine eI (sq 0 0 2) (eI [] (eI 0 (aI ?_ ?_)))
  ·exact zPp (news := []) rfl rfl rfl rfl (by kernel_rfl) zLo (by decide) rfl rfl (.inr (by decide))
  refine eI (sq 0 1 2) (eI [(0, some (.cells (roomC layR rc0 rc7 []) 69))] (eI 0 (aI ?_ ?_)))
  ·exact zIm layR zTc (k := 0) (ys := [rc7]) (C := [rc0, rc0]) zLo rfl rfl rfl rfl rfl (by kernel_rfl) rfl (by decide) (by decide) (by decide) (by kernel_rfl) (by decide) rfl rfl
  refine aI (by kernel_rfl) ?_
  exact ⟨_, _, _, rfl, rfl⟩
 refine eI (sq 0 l.length (l.length + 2)) (eI [(0, some (.cells ((l ++ [rc0, rc0]).flatMap layR.g) 69))] (eI 0 (aI ?_ ?_)))
 ·exact zIm layR zTc (k := 0) (ys := l) (C := List.replicate (l.length + 2) rc0) zLo rfl rfl rfl rfl rfl (by kernel_rfl) (by kernel_rfl) hz (by unfold U; omega) (by omega) (by kernel_rfl) (by rw [List.length_replicate]; omega) (aS _) (by rw [List.take_zero, List.nil_append, List.drop_replicate, show l.length + 2 - l.length = 2 by omega]; rfl)
 refine eI (sq 0 (l.length + 1) (l.length + 2)) (eI [(0, some (.cells (roomC layR rc0 rc7 l) 69))] (eI 0 (aI ?_ ?_)))
 ·exact zIm layR zTc (k := l.length) (ys := [rc7]) (C := l ++ [rc0, rc0]) zLo rfl rfl rfl rfl rfl (by kernel_rfl) (by kernel_rfl) (by decide) (by unfold U; omega) (by show l.length + 1 <= _; omega) (by kernel_rfl) (by simp) rfl (by simp [List.take_left', List.drop_append])
 refine ifK (fun g => ab (aA g) (by unfold U; omega)) (fun _ => ?_)
 refine aI ?_ ?_
 ·simp only [inLH, bA, dT]; exact ⟨⟨⟨⟨by omega, by omega⟩, by omega⟩, bL (by omega)⟩, bL (by omega)⟩
 exact ⟨_, _, _, rfl, rfl⟩
noncomputable def zPy : Ct Try.prog 0 :=
 CtR.ct { f := 41, X := List RcX, pre := fun l a _ _ => a = [trR l] /\ l.length <= 1048576, out := fun l H n => .ret (sq n l.length (l.length + 2)) (H.set n (some (.cells (roomC layR rc0 rc7 l) 69))) (n + 1) [],
          ok := fun l as0 H n ⟨h1, h2⟩ => by
           subst h1
           obtain ⟨r, hF, H', m, wr, rfl, h⟩ := zPx l h2
           exact zFq (fun n => sq n l.length (l.length + 2)) [0] [(roomC layR rc0 rc7 l, 69)] hF (.cons _ _ _ _ (.one _ _ (.deep _ _ _ _ _ _ trivial)) .nil) (by decide) (fun x hx => by simp at hx; subst hx; decide) rfl
            (fun i b xs e hb hc => by
             match i, hb, hc with
             | 0, hb, hc => cases hb; cases hc; exact ⟨[], by rw [aF]; exact h, zAc layR.g layR.plain _, .inl rfl⟩
             | i + 1, hb, hc => simp at hb) (fun n => .sl _ _ _ _ _ (zDf (i := 0) (by decide) rfl)),
          uniq := fun x x' a H m ⟨h1, _⟩ ⟨k1, _⟩ => by
           rw [h1] at k1
           simp only [aQ, and_true] at k1
           rw [zCa layR k1] }
theorem ms1_injC {a b : MsT} (h : [a.v] = [b.v]) : a = b := by simp only [aQ, and_true] at h; exact MsT.v_inj h
noncomputable def tbCm2 : Tb Try.prog 0 := tbOf mixed [zPy]
theorem copyMT_fn (m : MsT) (hf : m.fit 1048576) : ∃ r, FnS Try.prog 0 11 [m.v] .e 0 r /\ ∃ H k wr, r = .ret (.agg #[.int .i64 m.id, .int .i64 m.fl, sq 2 m.q.length (m.q.length + 2), sq 4 m.an.length (m.an.length + 2), sq 5 m.ns.length (m.ns.length + 2), sq 6 m.ar.length (m.ar.length + 2)]) H k wr /\
  H.get 2 = some (.cells (roomC layQ qu0 qu7 m.q) 57) /\ H.get 4 = some (.cells (roomC layR rc0 rc7 m.an) 69) /\ H.get 5 = some (.cells (roomC layR rc0 rc7 m.ns) 69) /\ H.get 6 = some (.cells (roomC layR rc0 rc7 m.ar) 69) := by
 obtain ⟨id, fl, ql, al, nl, rl⟩ := m
 obtain ⟨hq, hal, hnl, hrl⟩ := hf
 have hq : ql.length <= 1048576 := hq
 have e2 : IntKind.i64.wrap ((ql.length : Int) + 2) = ((ql.length + 2 : Nat) : Int) := by rw [wrapM (by omega) (by omega)]; omega
 refine zBh mixed tbCm2 [900001, 900002] Try.func11 (c := bodyOf Try.f11) (by kernel_rfl) ?_
 refine aI (by kernel_rfl) ?_
 refine eI (sq 2 0 (ql.length + 2)) (eI [((2 : Nat), some (AObj.cells ((List.replicate (ql.length + 2) qu0).flatMap layQ.g) 57))] (eI (1 : Nat) (aI ?_ ?_)))
 ·exact mk_room layQ qu0 zRb rfl rfl rfl rfl (by kernel_rfl) e2 (by omega) (by omega)
 by_cases hz : ql.length = 0
 ·have hz : ql = [] := List.length_eq_zero_iff.1 hz
  subst hz
  refine eI (sq 2 0 2) (eI ([] : List (Nat × Option AObj)) (eI (0 : Nat) (aI ?_ ?_)))
  ·exact zPp (news := []) rfl rfl rfl rfl (by kernel_rfl) zRb (by decide) rfl rfl (.inr (by decide))
  refine eI (sq 2 1 2) (eI [((2 : Nat), some (AObj.cells (roomC layQ qu0 qu7 []) 57))] (eI (0 : Nat) (aI ?_ ?_)))
  ·exact zIm layQ one_qu (k := 0) (ys := [qu7]) (C := [qu0, qu0]) zRb rfl rfl rfl rfl rfl (by kernel_rfl) rfl (by decide) (by decide) (by decide) (by kernel_rfl) (by decide) rfl rfl
  refine aI (by kernel_rfl) ?_
  refine eI al (aI ⟨rfl, hal⟩ ?_)
  refine eI nl (aI ⟨rfl, hnl⟩ ?_)
  refine eI rl (aI ⟨rfl, hrl⟩ ?_)
  exact ⟨_, _, _, rfl, rfl, rfl, rfl, rfl⟩
 refine eI (sq 2 ql.length (ql.length + 2)) (eI [((2 : Nat), some (AObj.cells ((ql ++ [qu0, qu0]).flatMap layQ.g) 57))] (eI (0 : Nat) (aI ?_ ?_)))
 ·exact zIm layQ one_qu (k := 0) (ys := ql) (C := List.replicate (ql.length + 2) qu0) zRb rfl rfl rfl rfl rfl (by kernel_rfl) (by kernel_rfl) hz (by unfold U; omega) (by omega) (by kernel_rfl) (by rw [List.length_replicate]; omega) (aS _) (by rw [List.take_zero, List.nil_append, List.drop_replicate, show ql.length + 2 - ql.length = 2 by omega]; rfl)
 refine eI (sq 2 (ql.length + 1) (ql.length + 2)) (eI [((2 : Nat), some (AObj.cells (roomC layQ qu0 qu7 ql) 57))] (eI (0 : Nat) (aI ?_ ?_)))
 ·exact zIm layQ one_qu (k := ql.length) (ys := [qu7]) (C := ql ++ [qu0, qu0]) zRb rfl rfl rfl rfl rfl (by kernel_rfl) (by kernel_rfl) (by decide) (by unfold U; omega) (by show ql.length + 1 <= _; omega) (by kernel_rfl) (by simp) rfl (by simp [List.take_left', List.drop_append])
 refine ifK (fun g => ab (aA g) (by unfold U; omega)) (fun _ => ?_)
 refine aI ?_ ?_
 ·simp only [inLH, bA, dT]; exact ⟨⟨⟨⟨by omega, by omega⟩, by omega⟩, bL (by omega)⟩, bL (by omega)⟩
 refine eI al (aI ⟨rfl, hal⟩ ?_)
 refine eI nl (aI ⟨rfl, hnl⟩ ?_)
 refine eI rl (aI ⟨rfl, hrl⟩ ?_)
 exact ⟨_, _, _, rfl, rfl, rfl, rfl, rfl⟩
def cpV (m : MsT) (b1 b2 b3 b4 : Nat) : Value := .agg #[.int .i64 m.id, .int .i64 m.fl, sq b1 m.q.length (m.q.length + 2), sq b2 m.an.length (m.an.length + 2), sq b3 m.ns.length (m.ns.length + 2), sq b4 m.ar.length (m.ar.length + 2)]
def cpC (m : MsT) : List (List Value × TypeId) := [(roomC layQ qu0 qu7 m.q, 57), (roomC layR rc0 rc7 m.an, 69), (roomC layR rc0 rc7 m.ns, 69), (roomC layR rc0 rc7 m.ar, 69)]
noncomputable def ct_copyMT : Ct Try.prog 0 :=
 CtR.ct { f := 11, X := MsT, pre := fun m a _ _ => a = [m.v] /\ m.fit 1048576, out := fun m H n => .ret (cpV m n (n + 1) (n + 2) (n + 3)) (layN H n (cpC m)) (n + 4) [],
          ok := fun m as0 H n ⟨h1, h2⟩ => by
           subst h1
           obtain ⟨r, hF, H', k, wr, rfl, g1, g2, g3, g4⟩ := copyMT_fn m h2
           exact zFq (fun n => cpV m n (n + 1) (n + 2) (n + 3)) [2, 4, 5, 6] (cpC m) hF (.cons _ _ _ _ (LtM.frz (m.lt_at H)) .nil) (by decide) (fun x hx => by simp only [aK, List.not_mem_nil, or_false] at hx; rcases hx with rfl | rfl | rfl | rfl <;> decide) rfl
            (fun i b xs e hb hc => by
             match i, hb, hc with
             | 0, hb, hc => cases hb; cases hc; exact ⟨[], by rw [aF]; exact g1, zAc layQ.g layQ.plain _, .inl rfl⟩
             | 1, hb, hc => cases hb; cases hc; exact ⟨[], by rw [aF]; exact g2, zAc layR.g layR.plain _, .inl rfl⟩
             | 2, hb, hc => cases hb; cases hc; exact ⟨[], by rw [aF]; exact g3, zAc layR.g layR.plain _, .inl rfl⟩
             | 3, hb, hc => cases hb; cases hc; exact ⟨[], by rw [aF]; exact g4, zAc layR.g layR.plain _, .inl rfl⟩
             | i + 4, hb, hc => simp at hb)
            (fun n => .agg _ _ (.cons _ _ _ _ (.plain _ rfl) (.cons _ _ _ _ (.plain _ rfl) (.cons _ _ _ _ (.sl _ _ _ _ _ (zDf (i := 0) (by decide) rfl)) (.cons _ _ _ _ (.sl _ _ _ _ _ (zDf (i := 1) (by decide) rfl)) (.cons _ _ _ _ (.sl _ _ _ _ _ (zDf (i := 2) (by decide) rfl)) (.cons _ _ _ _ (.sl _ _ _ _ _ (zDf (i := 3) (by decide) rfl)) .nil))))))),
          uniq := fun x x' a H m ⟨h1, _⟩ ⟨k1, _⟩ => by rw [h1] at k1; rw [ms1_injC k1] }
end
section
open Go Go.RowKit Go.Shelf
attribute [local go_sem] Oper.semAt_some
end
section
open Go Go.RowKit
end
section
open Go Go.RowKit
end
section
open Go Go.RowKit
end
section
open Go Go.RowKit
end
section
open Go Go.RowKit
end
section
open Go Go.RowKit
end
section
open Go Go.RowKit
def MsT.same (a b : MsT) : Bool := (a.id == b.id) && ((a.fl == b.fl) && (decide (a.q = b.q) && (decide (a.an = b.an) && (decide (a.ns = b.ns) && decide (a.ar = b.ar)))))
noncomputable def tbEt6 : Tb Try.prog 0 := tbOf mixed [ct_sameQT, zWl]
theorem sameM_tr (a b : MsT) (hf : a.fit 1000000) : ∃ r, FnS Try.prog 0 26 [a.v, b.v] .e 0 r /\ ∃ H k wr, r = .ret (.bool (a.same b)) H k wr := by
 obtain ⟨f1, f2, f3, f4⟩ := hf
 refine zBh mixed tbEt6 [] Try.func26 (c := bodyOf Try.f26) (by kernel_rfl) ?_
 unfold MsT.same
 refine ifK (fun g1 => ?_) (fun g1 => ?_)
 rotate_left
 ·rw [show (a.id == b.id) = false from g1]; exact ⟨_, _, _, rfl⟩
 rw [show (a.id == b.id) = true from g1]
 refine ifK (fun g2 => ?_) (fun g2 => ?_)
 rotate_left
 ·rw [show (a.fl == b.fl) = false from g2]; exact ⟨_, _, _, rfl⟩
 rw [show (a.fl == b.fl) = true from g2]
 refine eI (a.q, b.q) (aI ⟨rfl, by show a.q.length <= _; omega⟩ ?_)
 refine ifK (fun g3 => ?_) (fun g3 => ?_)
 rotate_left
 ·rw [show decide (a.q = b.q) = false from g3]; exact ⟨_, _, _, rfl⟩
 rw [show decide (a.q = b.q) = true from g3]
 refine eI (a.an, b.an) (aI ⟨rfl, by show a.an.length <= _; omega⟩ ?_)
 refine ifK (fun g4 => ?_) (fun g4 => ?_)
 rotate_left
 ·rw [show decide (a.an = b.an) = false from g4]; exact ⟨_, _, _, rfl⟩
 rw [show decide (a.an = b.an) = true from g4]
 refine eI (a.ns, b.ns) (aI ⟨rfl, by show a.ns.length <= _; omega⟩ ?_)
 refine ifK (fun g5 => ?_) (fun g5 => ?_)
 rotate_left
 ·rw [show decide (a.ns = b.ns) = false from g5]; exact ⟨_, _, _, rfl⟩
 rw [show decide (a.ns = b.ns) = true from g5]
 refine eI (a.ar, b.ar) (aI ⟨rfl, by show a.ar.length <= _; omega⟩ ?_)
 exact ⟨_, _, _, rfl⟩
theorem MsT.same_refl (a : MsT) : a.same a = true := by unfold MsT.same; simp
end
section
open Go Go.RowKit
noncomputable def ct_sameML : Ct Try.prog 0 := CtR.lend 26 (LtM × LtM) (fun x => [x.1.v, x.2.v]) (fun x H => x.1.at H /\ x.2.at H) (fun x => [x.1.m.v, x.2.m.v]) (fun x => x.1.m.fit 1000000) (fun x => .bool (x.1.m.same x.2.m))
 (fun x y H e h k => by simp only [aQ, and_true] at e; exact Prod.ext (LtM.uniq e.1 h.1 k.1) (LtM.uniq e.2 h.2 k.2)) (fun x H h => .cons _ _ _ _ (LtM.frz h.1) (.cons _ _ _ _ (LtM.frz h.2) .nil))
 (fun x hf => by obtain ⟨r, hF, H, k, wr, rfl⟩ := sameM_tr x.1.m x.2.m hf; exact ⟨_, _, _, _, hF, .one _ _ (.plain _ rfl)⟩)
def cpL (m : MsT) (b1 b2 b3 b4 : Nat) : LtM := ⟨m, sq b1 m.q.length (m.q.length + 2), sq b2 m.an.length (m.an.length + 2), sq b3 m.ns.length (m.ns.length + 2), sq b4 m.ar.length (m.ar.length + 2)⟩
def cpAt (m : MsT) (b1 b2 b3 b4 : Nat) (H : Tr AObj) : Prop := H.get b1 = some (.cells (roomC layQ qu0 qu7 m.q) 57) /\ H.get b2 = some (.cells (roomC layR rc0 rc7 m.an) 69) /\ H.get b3 = some (.cells (roomC layR rc0 rc7 m.ns) 69) /\ H.get b4 = some (.cells (roomC layR rc0 rc7 m.ar) 69)
theorem cpL_at {m : MsT} {b1 b2 b3 b4 : Nat} {H : Tr AObj} (hf : m.fit 1048576) (hJ : b1 < JJ /\ b2 < JJ /\ b3 < JJ /\ b4 < JJ) (h : cpAt m b1 b2 b3 b4 H) : (cpL m b1 b2 b3 b4).at H := by
 obtain ⟨h1, h2, h3, h4⟩ := h
 obtain ⟨f1, f2, f3, f4⟩ := hf
 have hx : maxLen = 9223372036854775807 := by decide
 exact ⟨.own layQ _ hJ.1 (.inr ⟨Nat.le_add_right _ _, by rw [hx]; omega⟩) h1 (zKd ..), .own layR _ hJ.2.1 (.inr ⟨Nat.le_add_right _ _, by rw [hx]; omega⟩) h2 (zKd ..), .own layR _ hJ.2.2.1 (.inr ⟨Nat.le_add_right _ _, by rw [hx]; omega⟩) h3 (zKd ..), .own layR _ hJ.2.2.2 (.inr ⟨Nat.le_add_right _ _, by rw [hx]; omega⟩) h4 (zKd ..)⟩
noncomputable def zWr : Ct Try.prog 0 := Ct.inl (tbOf mixed []) mixed [0, 1, 2, 3] 57 Try.f57 Try.func57 (bodyOf Try.f57) (by kernel_rfl)
noncomputable def tbKp : Tb Try.prog 0 := tbOf mixed [ct_sameML, zWr]
def kpH (m : MsT) : Tr AObj := heap 3 [(0, .cells (roomC layQ qu0 qu7 m.q) 57), (1, .cells (roomC layR rc0 rc7 m.an) 69), (2, .cells (roomC layR rc0 rc7 m.ns) 69), (3, .cells (roomC layR rc0 rc7 m.ar) 69)]
theorem keptM_fn (m : MsT) (hf : m.fit 1000000) : ∃ r, FnS Try.prog 0 18 [cpV m 0 1 2 3, m.v] (kpH m) 4 r /\ ∃ H k wr, r = .ret (.bool true) H k wr /\ ∀ i ∈ wr, 4 <= i := by
 have hsz : (Try.prog.types[57]).size = 3 := by kernel_rfl
 have hsz2 : (Try.prog.types[69]).size = 5 := by kernel_rfl
 obtain ⟨f1, f2, f3, f4⟩ := hf
 have hq : m.q.length <= 1048576 := by omega
 have ha : m.an.length <= 1048576 := by omega
 have hn : m.ns.length <= 1048576 := by omega
 have hr : m.ar.length <= 1048576 := by omega
 unfold kpH
 refine zBh mixed tbKp [0, 1, 2, 3] Try.func18 (c := bodyOf Try.f18) (by kernel_rfl) ?_
 refine eI (cpL m 0 1 2 3, m.lt) (aI ⟨rfl, ⟨cpL_at ⟨hq, ha, hn, hr⟩ (by decide) ⟨by kernel_rfl, by kernel_rfl, by kernel_rfl, by kernel_rfl⟩, m.lt_at _⟩, ⟨f1, f2, f3, f4⟩⟩ ?_)
 refine ifK (fun h => ab (show (!m.same m) = true from h) (by rw [MsT.same_refl]; simp)) (fun _ => ?_)
 refine ifK (fun g => ab g (spare0 hq)) (fun _ => ?_)
 refine aI (spare1 hq) ?_
 refine ifK (fun _ => ?_) (fun g => ab (spare2 hq) (by rw [show inI _ _ = false from g]; decide))
 refine eI (7 : Int) (aI (spare3 layQ qu0 qu7 m.q 1 _ hsz (by decide) hq) ?_)
 refine ifK (fun g => ab g (spare0 ha)) (fun _ => ?_)
 refine aI (spare1 ha) ?_
 refine ifK (fun _ => ?_) (fun g => ab (spare2 ha) (by rw [show inI _ _ = false from g]; decide))
 refine eI (7 : Int) (aI (spare3 layR rc0 rc7 m.an 1 _ hsz2 (by decide) ha) ?_)
 refine ifK (fun g => ab g (spare0 hn)) (fun _ => ?_)
 refine aI (spare1 hn) ?_
 refine ifK (fun _ => ?_) (fun g => ab (spare2 hn) (by rw [show inI _ _ = false from g]; decide))
 refine eI (7 : Int) (aI (spare3 layR rc0 rc7 m.ns 1 _ hsz2 (by decide) hn) ?_)
 refine ifK (fun g => ab g (spare0 hr)) (fun _ => ?_)
 refine aI (spare1 hr) ?_
 refine ifK (fun _ => ?_) (fun g => ab (spare2 hr) (by rw [show inI _ _ = false from g]; decide))
 refine eI (7 : Int) (aI (spare3 layR rc0 rc7 m.ar 1 _ hsz2 (by decide) hr) ?_)
 exact ⟨_, _, _, rfl, zGf rfl⟩
noncomputable def ct_keptML : Ct Try.prog 0 :=
 CtR.ct { f := 18, X := MsT × Nat × Nat × Nat × Nat, pre := fun x a H _ => a = [cpV x.1 x.2.1 x.2.2.1 x.2.2.2.1 x.2.2.2.2, x.1.v] /\ cpAt x.1 x.2.1 x.2.2.1 x.2.2.2.1 x.2.2.2.2 H /\ [x.2.1, x.2.2.1, x.2.2.2.1, x.2.2.2.2].Nodup /\ x.1.fit 1000000, out := fun x H n => .ret (.bool true) H n [],
          ok := fun ⟨m, b1, b2, b3, b4⟩ as0 H n ⟨h1, ⟨g1, g2, g3, g4⟩, h3, h4⟩ => by
           subst h1
           obtain ⟨r, hF, H', k, wr, rfl, hw⟩ := keptM_fn m h4
           exact zNt [b1, b2, b3, b4] hF hw (zCs h3) (ArgOK.of (.cons _ _ _ _ (.agg _ _ (.cons _ _ _ _ (.int _ _) (.cons _ _ _ _ (.int _ _) (.cons _ _ _ _ (.sl _ _ _ _ _ rfl) (.cons _ _ _ _ (.sl _ _ _ _ _ rfl) (.cons _ _ _ _ (.sl _ _ _ _ _ rfl) (.cons _ _ _ _ (.sl _ _ _ _ _ rfl) .nil))))))) (.cons _ _ _ _ (zAs 8 rfl) .nil)))
            (zCl ⟨⟨b1, _, rfl, g1, .same (zAc layQ.g layQ.plain _)⟩, ⟨b2, _, rfl, g2, .same (zAc layR.g layR.plain _)⟩, ⟨b3, _, rfl, g3, .same (zAc layR.g layR.plain _)⟩, ⟨b4, _, rfl, g4, .same (zAc layR.g layR.plain _)⟩, tv⟩) rfl,
          uniq := fun x x' a H m ⟨h1, _⟩ ⟨k1, _⟩ => rfl }
end
section
open Go Go.RowKit
def u8V (x : Int) : Value := .int .u8 x
theorem zFi (L : List Int) : plainL (L.map u8V) = true := by simp [plainL, plainV, u8V]
def ovX (x : Int) : Int := bitsI .xor .u8 x 90
def ovL (L : List Int) (i : Nat) : List Int := (L.take i).map ovX ++ L.drop i
theorem ovL_len (L : List Int) (i : Nat) : (ovL L i).length = L.length := by simp [ovL]; omega
theorem ovL_set (L : List Int) (i : Nat) (h : i < L.length) : (ovL L i).set i (ovX L[i]) = ovL L (i + 1) := by
 unfold ovL
 have hl : ((L.take i).map ovX).length = i := by simp; omega
 rw [List.set_append_right _ _ (by omega), hl, Nat.sub_self, bD h, List.set_cons_zero, List.take_succ_eq_append_getElem h, List.map_append, aN]; rfl
theorem ovL_get (L : List Int) (i : Nat) (h : i < L.length) : ((ovL L i).map u8V)[i]? = some (.int .u8 L[i]) := by
 unfold ovL
 have hl : ((L.take i).map ovX).length = i := by simp; omega
 rw [List.map_append, List.getElem?_append_right (by simp; omega), aT, hl, Nat.sub_self, bD h]; rfl
theorem set_u8 (C : List Int) (j : Nat) (b : Int) (h : j < C.length) : (C.map u8V).take (0 + j * 1) ++ [u8V b] ++ (C.map u8V).drop (0 + j * 1 + 1) = (C.set j b).map u8V := by
 rw [aS, aR, List.map_set, List.set_eq_take_append_cons_drop, if_pos (by rw [aT]; exact h)]
 simp
noncomputable def tbOv1 : Tb Try.prog 0 := tbOf mixed []
def ov1S (L : List Int) (i : Nat) (f : Nat -> Option Value) : Fs := ⟨slots 6 [(2, .slice (some ⟨0, 0, none⟩) L.length L.length), (3, .int .i64 (i : Int))] f, heap 1 [(0, .cells ((ovL L i).map u8V) 5)], 1, [0], []⟩
theorem over_fn (L : List Int) (n : Nat) (hn : n <= L.length) (hL : L.length <= 9223372036854775807) :
  ∃ r, FnS Try.prog 0 17 [.slice (some ⟨0, 0, none⟩) n L.length] (heap 1 [(0, .cells (L.map u8V) 5)]) 1 r /\ ∃ H m wr, r = .ret (.tuple #[]) H m wr /\ 0 ∈ wr /\ H.get 0 = some (.cells ((ovL L L.length).map u8V) 5) := by
 have h1s : (Try.prog.types[5]).size = 1 := by kernel_rfl
 have hU : L.length.beq U = false := by cases hb : L.length.beq U; rfl; exact ab (aA hb) (by unfold U; omega)
 refine zBh mixed tbOv1 [0, 900003] Try.func17 (c := bodyOf Try.f17) (by kernel_rfl) ?_
 refine aI hU ?_
 refine ifK (fun g => by rw [hU] at g; cases g) (fun _ => ?_)
 refine aI (by simp only [inLH, bA, dT]; exact ⟨⟨⟨⟨(by omega), (by omega)⟩, (by omega)⟩, bL hn⟩, bL (by omega)⟩) ?_
 refine zAn (ov1S L) (fun i => L.length - i) (fun i => i <= L.length) 0 (aH _) (rcq [] ⟨⟨_, rfl, ?_⟩, (sI rfl), tv⟩ ⟨⟨by decide, _, rfl, zAv (by simp [ovL]) (zFi _)⟩, tv⟩ .nil) ?_
 ·show RV _ (.slice (some ⟨0, bif L.length.beq 0 then 0 else 0 + 0 * _, none⟩) (L.length - 0) (L.length - 0)) _
  have e : (bif L.length.beq 0 then 0 else 0 + 0 * (Try.prog.types[5]).size) = 0 := by cases L.length.beq 0 <;> simp
  rw [e, Nat.sub_zero]; exact .sl _ _ _ _ _ rfl
 rintro i f hi
 have hi : i <= L.length := hi
 refine zAm tbOv1 [0, 900003] 1 _ none mixed _ _ _ ?_
 refine ifK (fun h1 => ?_) (fun h1 => ?_)
 ·have h1 : i < L.length := by have := oT h1; omega
  refine ifK (fun _ => ?_) (fun h2 => ab h2 (by simp [inI]; omega))
  refine eI L[i] (aI (by rw [h1s, aO, aS, aR]; exact ovL_get L i h1) ?_)
  refine ifK (fun _ => ?_) (fun h2 => ab h2 (by simp [inI]; omega))
  refine eI undef (eI [((0 : Nat), some (AObj.cells ((ovL L (i + 1)).map u8V) 5))] (eI (0 : Nat) (aI ?_ ?_)))
  ·refine aop_store (b := 0) (off := 0 + i * 1) (sz := 1) (bytes := 1) (z := .int .u8 0) (v := u8V (ovX L[i])) (C := (ovL L i).map u8V) rfl ?_ rfl rfl bytes_ty rfl rfl (by rw [aT, ovL_len]; omega) ?_
   ·show Value.pointer _ = _
    rw [h1s]; rfl
   rw [<- ovL_set L i h1]
   exact set_u8 (ovL L i) i (ovX L[i]) (by rw [ovL_len]; exact h1)
  exact ⟨i + 1, h1, by show L.length - (i + 1) < L.length - i; omega, rcq [] ⟨(sL rfl rfl), zAb rfl (by rw [wrapN (by omega) (by omega)]; omega), tv⟩ ⟨bpo (zFi _), tv⟩ .nil⟩
 have h1 : i = L.length := by have h1 : ¬ ((i : Nat) : Int) < (L.length : Int) := oF h1; omega
 subst h1
 refine aI rfl (zAg (rcq [] (d := 6) (d2 := 1) (lv := []) (bs := [(0, .cells ((ovL L L.length).map u8V) 5)]) (W := [0]) (m := 1) (df := []) trivial ⟨bpo (zFi _), tv⟩ .nil) (fun f => ?_))
 exact ⟨_, _, _, rfl, List.mem_of_elem_eq_true (by kernel_rfl), rfl⟩
theorem HR.wk {P : Program} {E : Env} {G G' : Gh} {w : World} (h : HR P E G w) (hs : ∀ k o, G' k = some o -> ∃ o1, G k = some o1 /\ (OR P E w k o1 -> OR P E w k o) /\ (o1.isWin -> o.isWin)) : HR P E G' w := by
 have hn : ∀ i, G' i ≠ none -> G i ≠ none := fun i hi => by
  cases hg : G' i with
  | none => exact ab hg hi
  | some o => obtain ⟨o1, h1, _⟩ := hs i o hg; rw [h1]; simp
 refine ⟨h.lt, fun k hk => ?_, fun k o ho => ?_, fun i j hi hj hr e => h.inj i j (hn i hi) (hn j hj) hr e, fun k o ho hr => ?_, h.fz, fun id hid hr => h.fn id (hn id hid) hr, h.pos⟩
 ·cases hg : G' k with
  | none => rfl
  | some o => exact ab (h.dom k hk) (hn k (by rw [hg]; simp))
 ·obtain ⟨o1, h1, h2, _⟩ := hs k o ho; exact h2 (h.obj k o1 h1)
 obtain ⟨o1, h1, _, h3⟩ := hs k o ho; exact h3 (h.ro k o1 h1 hr)
theorem u8_list {l : List Value} (h : ∀ v ∈ l, ∃ x, v = .int .u8 x) : ∃ L : List Int, l = L.map u8V := by
 induction l with
 | nil => exact ⟨[], rfl⟩
 | cons v l ih =>
  obtain ⟨x, rfl⟩ := h v (List.mem_cons_self ..)
  obtain ⟨L, rfl⟩ := ih (fun v hv => h v (List.mem_cons_of_mem _ hv))
  exact ⟨x :: L, rfl⟩
theorem byte_rest {l : List Value} (h : restOK Try.prog 5 l) : ∀ v ∈ l, ∃ x, v = .int .u8 x := by
 have hz : (Try.prog.info? 5).bind (·.zero) = some (.int .u8 0) := by kernel_rfl
 obtain ⟨i, h1, h2⟩ := bF.1 hz
 exact h (by kernel_rfl) i _ h1 h2 rfl
theorem OR.bytes {E : Env} {w : World} {b : Nat} {c : List Value} (h : OR Try.prog E w b (.cells c 5)) (hc : ∃ L : List Int, c = L.map u8V) :
  ∃ arr fr, w.heap[E.ρ b]? = some (.cells arr 5 fr) /\ (fr = (0, 0) \/ (arr.size <= fr.1 /\ Try.prog.underlying 5 = some (.int .u8))) /\ arr.size = E.tot b /\ E.sz b = 1 /\ E.sh b = 0 /\ ∃ L : List Int, arr.toList = L.map u8V := by
 obtain ⟨arr, fr, h1, h2, h3, h4, h5, h6, h7, h8⟩ := h
 obtain ⟨L, rfl⟩ := hc
 have h9 : arr.toList.take (L.map u8V).length = L.map u8V := by
  have : plainL (L.map u8V) = true := zFi L
  have := zCw 9 (E := E) (v := .agg (L.map u8V).toArray) (v' := .agg (arr.toList.take (L.map u8V).length).toArray) (by simpa [plainV, plainL] using this) (.agg _ _ (by simpa using h6))
  simpa using this
 obtain ⟨M, hM⟩ := u8_list (byte_rest h8)
 have hsz : E.sz b = 1 := by
  have := zKm
  rw [h4] at this; simpa using this
 refine ⟨arr, fr, h1, h2, h3, hsz, h7, L ++ M, ?_⟩
 rw [List.map_append, <- hM]
 conv => lhs; rw [<- List.take_append_drop (L.map u8V).length arr.toList, h9]
theorem zVd {E : Env} {w : World} {b : Nat} {arr : Array Value} {fr : Nat × Nat} {L : List Int} (h1 : w.heap[E.ρ b]? = some (.cells arr 5 fr)) (h2 : fr = (0, 0) \/ (arr.size <= fr.1 /\ Try.prog.underlying 5 = some (.int .u8))) (h3 : arr.size = E.tot b) (h4 : E.sz b = 1) (h5 : E.sh b = 0) (h6 : arr.toList = L.map u8V) :
  OR Try.prog E w b (.cells (L.map u8V) 5) /\ OR Try.prog E w b (.cells [] 5) := by
 have hl : (L.map u8V).length = arr.size := by rw [<- h6]; simp
 refine ⟨⟨arr, fr, h1, h2, h3, by rw [h4]; exact zKm, by omega, ?_, h5, restOK.nil (bE (by rw [hl]; simp))⟩, ⟨arr, fr, h1, h2, h3, by rw [h4]; exact zKm, aH _, .nil, h5, fun _ _ _ _ _ _ v hv => ?_⟩⟩
 ·rw [h6, aD (aJ _)]; exact zCy (zFi L)
 have hv : v ∈ arr.toList := hv
 rw [h6] at hv
 obtain ⟨x, _, rfl⟩ := List.mem_map.1 hv
 exact ⟨x, rfl⟩
theorem byV_u8 (l : Bl) : ∃ L : List Int, l.map byV = L.map u8V := ⟨l.map fun b => (b.toNat : Int), by rw [List.map_map]; rfl⟩
theorem over_call (b n : Nat) (C : List Value) (hC : ∃ L : List Int, C = L.map u8V) (hn : n ≠ 0) (H : Tr AObj) (m : Nat) (hb : H.get b = some (.cells C 5)) :
  CallOK Try.prog 0 17 [.slice (some ⟨b, 0, none⟩) n U] H m (.ret (.tuple #[]) (H.set b (some (.cells [] 5))) m [b]) := by
 refine ⟨⟨aJ _, fun k hk hm => Tr.get_set_ne _ _ (fun e => hm (by simp [e])), fun h0 k hk => ?_⟩, fun E w args' hgl hva hE hlow hfree => ?_⟩
 ·have hlt := h0.lt (k := b) (by rw [hb]; simp)
  rw [Tr.get_set_ne _ _ (by omega)]; exact h0 k hk
 obtain ⟨arr, fr, q1, q2, q3, q4, q5, L, q6⟩ := (hE.obj b _ hb).bytes hC
 have hll : L.length = arr.size := by have := congrArg List.length q6; simpa using this.symm
 obtain ⟨o1, _⟩ := zVd q1 q2 q3 q4 q5 q6
 obtain ⟨c', hc1, hc2, hc3, hargs⟩ : ∃ c', n <= c' /\ c' <= maxLen /\ c' = L.length /\ VL E [.slice (some ⟨b, 0, none⟩) n c'] args'.toList := by
  cases hva' : args'.toList with
  | nil => rw [hva'] at hva; cases hva
  | cons x xs =>
   rw [hva'] at hva
   cases hva with
   | cons _ _ _ _ hv ht =>
    cases hv with
    | sl _ _ _ _ hd hc => exact ab rfl hc
    | su _ _ _ c' hd h1 h2 h3 =>
     refine ⟨c', h1, h2, by rw [hll, q3, <- h3, q4]; omega, .cons _ _ _ _ (.sl b 0 n c' hd ?_) ht⟩
     have : maxLen = 9223372036854775807 := by decide
     unfold U; omega
    | se _ _ _ a' hd ha hc => exact ab rfl hn
 have hmx : maxLen = 9223372036854775807 := by decide
 subst hc3
 obtain ⟨r, hF, H', k, wr, rfl, h0w, hg⟩ := over_fn L n hc1 (by omega)
 have hb' : (H.set b (some (.cells (L.map u8V) 5))).get b = some (.cells (L.map u8V) 5) := Tr.get_set_self _ _ _
 have hE' : HR Try.prog E (H.set b (some (.cells (L.map u8V) 5))).get w := hE.wk fun k o ho => by
  by_cases hk : k = b
  ·subst hk
   rw [Tr.get_set_self] at ho; cases ho
   exact ⟨_, hb, fun _ => o1, fun h => h⟩
  rw [Tr.get_set_ne _ _ hk] at ho
  exact ⟨o, ho, fun h => h, fun h => h⟩
 have hcall := zNu (b := b) (n := m) hF hb' h0w hg (zFi _) (zFi _) rfl (ArgOK.of (.cons _ _ _ _ (.sl _ _ _ _ _ rfl) .nil))
 refine (hcall.2 E w args' hgl hargs hE' (fun k hk => ?_) hfree).mono ?_
 ·by_cases hkb : k = b
  ·subst hkb; have := hlow k hk; rw [hb] at this; cases this
  rw [Tr.get_set_ne _ _ hkb]; exact hlow k hk
 rintro e w' ⟨E2, v', r1, r2, r3, r4, r5, r6⟩
 refine ⟨E2, v', r1, r2, r3, r4, r5.wk fun k o ho => ?_, r6⟩
 by_cases hk : k = b
 ·subst hk
  have ho : (H.set k (some (.cells [] 5))).get k = some o := ho
  rw [Tr.get_set_self] at ho; cases ho
  refine ⟨_, Tr.get_set_self _ _ _, fun h => ?_, fun h => h⟩
  obtain ⟨arr2, fr2, s1, s2, s3, s4, s5, L2, s6⟩ := h.bytes ⟨_, rfl⟩
  exact (zVd s1 s2 s3 s4 s5 s6).2
 have ho : (H.set b (some (.cells [] 5))).get k = some o := ho
 rw [Tr.get_set_ne _ _ hk] at ho
 exact ⟨o, by rw [Tr.get_set_ne _ _ hk, Tr.get_set_ne _ _ hk]; exact ho, fun h => h, fun h => h⟩
structure OvX where
 b : Nat
 l : Bl
noncomputable def ct_over1 : Ct Try.prog 0 :=
 CtR.ct { f := 17, X := OvX, pre := fun x a H _ => a = [.slice (some ⟨x.b, 0, none⟩) x.l.length U] /\ H.get x.b = some (.cells (x.l.map byV) 5) /\ x.l ≠ [],
          out := fun x H n => .ret (.tuple #[]) (H.set x.b (some (.cells [] 5))) n [x.b],
          tr := fun x H n K => frcN x.b fun b => K (.ret (.tuple #[]) (H.set b (some (.cells [] 5))) n [b]),
          trOk := fun x H n K h => by rw [zCe] at h; exact h,
          ok := fun x a H n ⟨h1, h2, h3⟩ => by
           subst h1
           exact over_call x.b x.l.length _ (byV_u8 x.l) (by cases hx : x.l with | nil => exact ab hx h3 | cons y l => simp) H n h2,
          uniq := fun x y a H m ⟨h1, _⟩ ⟨k1, _⟩ => by
           obtain ⟨b, l⟩ := x
           obtain ⟨b', l'⟩ := y
           rw [h1] at k1
           simp only [aQ, Value.slice.injEq, aP, Addr.mk.injEq, and_true] at k1
           obtain ⟨rfl, _⟩ := k1; rfl }
noncomputable def zWt : Ct Try.prog 0 := Ct.inl tbOv1 mixed [] 17 Try.f17 Try.func17 (bodyOf Try.f17) (by kernel_rfl)
noncomputable def ct_overB : Ct Try.prog 0 := Ct.alt nil0 zWt ct_over1 rfl
end
section
open Go Go.RowKit
noncomputable def tbSb : Tb Try.prog 0 := tbOf mixed []
theorem srcU {G : Gh} {b c : Nat} {pre post : List Value} {l : Bl} (hG : (G b).bind AObj.look = some (pre ++ l.flatMap layU.g ++ post)) : zAq G 1 (.slice (some ⟨b, pre.length, none⟩) l.length c) = some (l.length, l.map fun b : UInt8 => Value.int .u8 (b.toNat : Int)) := by
 have h : l.flatMap layU.g = l.map fun b : UInt8 => Value.int .u8 (b.toNat : Int) := zQp l
 rw [<- h]
 unfold zAq
 cases hl : Nat.beq l.length 0 with
 | true =>
  have : l = [] := List.length_eq_zero_iff.1 (aA hl)
  subst this
  simp [hl]
 | false =>
  have h1 := zAe layU.g layU.k layU.len l
  have h2 : layU.k = 1 := rfl
  rw [h2, aR] at h1
  simp only [hl, cF, hG]
  rw [bL (by simp only [aB, h1]; omega), cT, aN, List.drop_left, aR, <- h1, List.take_left]
theorem sameB_fn (c1 c2 : Nat) (a1 b1 a2 b2 : List Value) (l1 l2 : Bl) :
  ∃ r, FnS Try.prog 0 16 [.slice (some ⟨0, a1.length, none⟩) l1.length c1, .slice (some ⟨1, a2.length, none⟩) l2.length c2] (heap 2 [(0, .win (a1 ++ l1.flatMap layU.g ++ b1) layU.k), (1, .win (a2 ++ l2.flatMap layU.g ++ b2) layU.k)]) 2 r /\ ∃ H m wr, r = .ret (.bool (decide (l1 = l2))) H m wr /\ ∀ k ∈ wr, 2 <= k := by
 refine zBh mixed tbSb [0, 1] Try.func16 (c := bodyOf Try.f16) (by kernel_rfl) ?_
 refine eI l1 (aI (srcU rfl) ?_)
 refine eI l2 (aI (srcU rfl) ?_)
 refine ⟨_, _, _, congrArg (fun b => Res.ret (.bool b) _ _ _) ?_, zGf rfl⟩
 show ((l1.toArray).toList == (l2.toArray).toList) = decide (l1 = l2)
 refine Bool.eq_iff_iff.2 ?_
 simp
noncomputable def zWu : Ct Try.prog 0 := Ct.inl tbSb mixed [] 16 Try.f16 Try.func16 (bodyOf Try.f16) (by kernel_rfl)
def ownU (b : Nat) (l : Bl) : RdL UInt8 := ⟨b, U, [], l, []⟩
theorem ownU_at {H : Tr AObj} {b : Nat} {l : Bl} (h : H.get b = some (.cells (l.map byV) 5)) : (ownU b l).at layU H := by
 refine ⟨?_, rfl, rfl⟩
 show (H.get b).bind _ = some ([] ++ l.flatMap layU.g ++ [])
 rw [h, aF, List.nil_append, zQp]; rfl
def sameAt (H : Tr AObj) (args : List Value) : Prop := ∃ (l : Bl) (b1 b2 : Nat), args = [.slice (some ⟨b1, 0, none⟩) l.length U, .slice (some ⟨b2, 0, none⟩) l.length U] /\ H.get b1 = some (.cells (l.map byV) 5) /\ H.get b2 = some (.cells (l.map byV) 5)
theorem sameAt_ok {H : Tr AObj} {args : List Value} (h : sameAt H args) (n : Nat) : TOK Try.prog 0 (.call 16 args) ⟨.e, H, n, [], []⟩ (.ret (.bool true) H n []) := by
 obtain ⟨l, b1, b2, rfl, h1, h2⟩ := h
 obtain ⟨r, hF, H', m, wr, rfl, hw⟩ := sameB_fn U U [] [] [] [] l l
 rw [aX rfl] at hF
 have hz : (Try.prog.info? 5).map (·.size) = some layU.k := by kernel_rfl
 obtain ⟨o1, e1, r1⟩ := (ownU_at h1).1.ro (P := Try.prog) (σ := caR [b1, b2]) (RdL.plain rfl rfl) hz
 obtain ⟨o2, e2, r2⟩ := (ownU_at h2).1.ro (P := Try.prog) (σ := caR [b1, b2]) (RdL.plain rfl rfl) hz
 exact zDa [b1, b2] hF hw (dup_win (fun x hx => by simp only [aK, List.not_mem_nil, or_false] at hx; rcases hx with rfl | rfl <;> exact trivial)) (.cons _ _ _ _ (.sl _ _ _ _ _ rfl) (.cons _ _ _ _ (.sl _ _ _ _ _ rfl) .nil)) (zCl ⟨⟨b1, _, rfl, e1, r1⟩, ⟨b2, _, rfl, e2, r2⟩, tv⟩) rfl
open Classical in
noncomputable def ct_sameT : Ct Try.prog 0 where
 f := 16
 res args H n := if sameAt H args then .ret (.bool true) H n [] else .bad "" []
 ok args H n := by
  split
  ·exact sameAt_ok ‹_› n
  trivial
 ck args H n K := sameAt H args /\ K (.ret (.bool true) H n [])
 imp args H n K h := by rw [if_pos h.1]; exact h.2
noncomputable def ct_sameE : Ct Try.prog 0 := Ct.alt nil0 zWu ct_sameT rfl
end
end Go.Proofs.Ytcggcoijhdagnaa
