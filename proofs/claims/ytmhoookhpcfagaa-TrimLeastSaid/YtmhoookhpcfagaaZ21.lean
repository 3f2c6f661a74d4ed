/- DERIVED. Texts put together: A6, Ta1, Le1, Le2, Le3, Le4. -/
import Derived.SizedLaws
import Derived.Test.YtmhoookhpcfagaaZ15
import Derived.Test.YtmhoookhpcfagaaZ17
import Derived.Test.YtmhoookhpcfagaaZ20
set_option maxRecDepth 1000000
set_option maxHeartbeats 32000000
namespace Go.Proofs.Ytmhoookhpcfagaa
open Go Go.Joins Go.ChangeShapes Go.WideShapes Go.RowKit Go.Deep
section
variable {H : Type} {enc : TypeId × Value → H} {P : Program} {w : World} {base : Nat} {spare : Nat → Bool} {held : Bool}
theorem zIv : ∀ (n : Nat) (t : TypeId) (ts : List TypeId) (m : Nat) (cs : List Value) (x : DataW H × List MemPlace), flatOK P n t ts = true → DataW.trod enc P w base spare held m t cs = some x → cs.length = ts.length → ∀ (i : Nat) (u : TypeId) (v : Value), ts[i]? = some u → cs[i]? = some v → ∃ k y, DataW.trod enc P w base spare held k u [v] = some y ∧ ∀ n ∈ y.1.weights P u, n ∈ x.1.weights P t
 | 0, _, _, _, _, _, h, _, _, _, _, _, _, _ => by cases h
 | n + 1, t, ts, m, cs, x, h, hx, hlen, i, u, v, hu, hv => by
  unfold flatOK at h
  split at h
  ·rename_i fs hs
   simp only [Bool.and_eq_true] at h
   obtain ⟨⟨h1, h2⟩, h3⟩ := h
   obtain ⟨xs, n', _, hxe, hl, hxl, hf⟩ := DataW.trod_struct hs hx
   have hi : i < ts.length := (List.getElem?_eq_some_iff.1 hu).1
   have h3 := List.all_eq_true.1 h3 i (List.mem_range.2 hi)
   obtain ⟨f, hfm, h4⟩ := List.any_eq_true.1 h3
   simp only [Bool.and_eq_true] at h4
   have ha := Nat.le_of_ble_eq_true h4.1
   have hb : i < f.offset + P.cellsOf f.type := Nat.le_of_ble_eq_true h4.2
   obtain ⟨j, hj⟩ := List.getElem?_of_mem hfm
   have hj' : fs[j]? = some f := by rw [← Array.getElem?_toList]; exact hj
   have hjl : j < xs.length := by rw [hxl]; exact (Array.getElem?_eq_some_iff.1 hj').1
   have hg := hf j f hj'
   rw [List.getElem?_eq_getElem hjl] at hg
   have hk := List.all_eq_true.1 h2 f hfm
   obtain ⟨k, y, r1, r2⟩ := zIv n f.type _ n' _ _ hk hg (by simp only [List.length_take, List.length_drop, hlen]) (i - f.offset) u v
    (by rw [List.getElem?_take_of_lt (by omega), List.getElem?_drop, show f.offset + (i - f.offset) = i by omega]; exact hu)
    (by rw [List.getElem?_take_of_lt (by omega), List.getElem?_drop, show f.offset + (i - f.offset) = i by omega]; exact hv)
   refine ⟨k, y, r1, fun q hq => ?_⟩
   rw [hxe]
   show q ∈ DataW.weights P t (.agg (xs.map (·.1)))
   unfold DataW.weights
   simp only [hs]
   exact DataW.weights_mem_each (j := j) (t := f.type) (d := (xs[j]'hjl).1) (by rw [List.getElem?_map, hj]; rfl) (by rw [List.getElem?_map, List.getElem?_eq_getElem hjl]; rfl) q (r2 q hq)
  ·split at h
   ·rename_i u'
    have := Nat.eq_of_beq_eq_true h
    subst this
    have hc : cs.length = 1 := hlen
    match cs, hc with
    | [c], _ =>
     cases i with
     | zero =>
      simp only [List.getElem?_cons_zero, Option.some.injEq] at hu hv
      subst hu; subst hv
      exact ⟨m, x, hx, fun q hq => hq⟩
     | succ i => simp at hu
   ·cases h
theorem zPa {r : Reach} {b0 : Nat} {t : TypeId} {fs : Array Field} {ts : List TypeId} {v : Value} {d : DataW H} {p : List MemPlace} (hs : P.underlying t = some (.struct fs)) (ht : flatOK P 8 t ts = true) (hC : P.cellsOf t = ts.length) (hct : P.cellTypes P.depth t = some ts)
  (hv : Value.okWide P w r b0 t v) (h : DataW.Trod enc P w base spare held t v d p) :
  ∃ cs : List Value, v = .agg ⟨cs⟩ ∧ cs.length = ts.length ∧ ∀ (i : Nat) (u : TypeId) (c : Value), ts[i]? = some u → cs[i]? = some c → Cell.okWide P w r b0 u c ∧ ∃ k y, DataW.trod enc P w base spare held k u [c] = some y ∧ ∀ n ∈ y.1.weights P u, n ∈ d.weights P t := by
 simp only [Value.okWide, hs] at hv
 obtain ⟨⟨cs⟩, rfl, hsz, ts', h1, _, h2⟩ := hv
 rw [hct] at h1
 cases h1
 obtain ⟨fuel, hf⟩ := h
 have hl : cs.length = ts.length := by rw [← hC]; exact hsz
 refine ⟨cs, rfl, hl, fun i u c hu hc => ⟨?_, ?_⟩⟩
 ·have hi : i < ts.length := (List.getElem?_eq_some_iff.1 hu).1
  obtain ⟨u', h3, h4⟩ := h2 i c (by simpa using hc)
  rw [Nat.mod_eq_of_lt hi, hu] at h3
  cases h3
  exact h4
 ·exact zIv 8 t ts fuel cs _ ht hf hl i u c hu hc
theorem vr_len {E : Env} {b o n c len cap : Nat} {a : Option Addr} (h : VR E (.slice (some ⟨b, o, none⟩) n c) (.slice a len cap)) : n ≤ len := by
 cases h <;> first | exact Nat.le_refl _ | exact Nat.zero_le _
theorem zDr {α : Type} (L : Lay α) {r : Reach} {b0 : Nat} {t e : TypeId} {v : Value} {fuel R : Nat} {x : DataW H × List MemPlace} (ht : P.underlying t = some (.slice e)) (hC : P.cellsOf e = L.k)
  (hopen : ∀ n cs y, DataW.trod enc P w base spare held n e cs = some y → ∃ x, cs = L.g x) (hv : Cell.okWide P w r b0 t v) (h : DataW.trod enc P w base spare held fuel t [v] = some x) (hpos : 0 < w.heap.size) (hw : ∀ n ∈ x.1.weights P t, n ≤ R) :
  ∃ y : WinL α, y.good L w ∧ y.l.length * P.bytesOf e ≤ R ∧ ∀ (E : Env) (k : Nat), E.dom k → E.ρ k = y.b → E.sh k = y.off → VR E (y.sl k) v := by
 obtain ⟨y, h1, h2⟩ := open_winl L ht hC hopen hv h hpos
 refine ⟨y, h1, ?_, h2⟩
 have hvr := h2 ⟨fun _ => True, fun _ => y.b, fun _ => 0, fun _ => 0, fun _ => y.off, fun _ => False, fun _ => none⟩ 0 trivial rfl rfl
 rcases open_slice ht h with ⟨h0, _⟩ | ⟨a, len, cap, m, n, D, Pl, hcs, _, _, _, _, hx, _⟩
 ·simp only [List.cons.injEq, and_true] at h0
  subst h0
  have : y.l.length = 0 := Nat.le_zero.1 (vr_len (b := 0) (o := 0) (c := y.c) hvr)
  rw [this, Nat.zero_mul]; exact Nat.zero_le _
 ·simp only [List.cons.injEq, and_true] at hcs
  subst hcs
  have hle : y.l.length ≤ len := vr_len (b := 0) (o := 0) (c := y.c) hvr
  have hq := hw ((len + (m - len)) * P.bytesOf e) (by
   rw [hx]
   show _ ∈ DataW.weights P t (.slice _ _)
   unfold DataW.weights
   simp only [ht, List.length_map, List.length_range]
   exact List.mem_cons_self ..)
  exact Nat.le_trans (Nat.mul_le_mul_right _ (by omega)) hq
end
section
variable {H : Type} {enc : TypeId × Value → H} {w : World} {base : Nat} {spare : Nat → Bool} {held : Bool}
theorem bytes_q : Try.prog.bytesOf 56 = 32 := by kernel_rfl
theorem zMa : Try.prog.bytesOf 41 = 56 := by kernel_rfl
theorem weigh {ts : List TypeId} {ds : List (DataW H)} (h : (DataW.weightsEach Try.prog ts ds).all (· ≤ reachBytes) = true) {j : Nat} {t : TypeId} {d : DataW H} (ht : ts[j]? = some t) (hd : ds[j]? = some d) : ∀ n ∈ d.weights Try.prog t, n ≤ reachBytes := fun n hn => by
 have := List.all_eq_true.1 h n (DataW.weights_mem_each ht hd n hn)
 exact of_decide_eq_true this
end
end Go.Proofs.Ytmhoookhpcfagaa
namespace Go.Proofs.Ytmhoookhpcfagaa
open Go Go.Joins Go.ChangeShapes Go.WideShapes Go.RowKit Go.Deep
theorem zDu {α : Type} (L : Lay α) {w : World} {y : WinL α} (hg : y.good L w) {v : Value} (h : ∀ (E : Env) (k : Nat), E.dom k → E.ρ k = y.b → E.sh k = y.off → VR E (y.sl k) v) : VR (Env.all w) (treeV L.k y.l.length (y.l.flatMap L.g)) v := by
 obtain ⟨g1, g2, g3, g4⟩ := hg
 have hvr : VR ⟨fun _ => True, fun _ => y.b, fun _ => 0, fun _ => 0, fun _ => y.off, fun _ => False, fun _ => none⟩ (.slice (some ⟨0, 0, none⟩) y.l.length y.c) v := h ⟨fun _ => True, fun _ => y.b, fun _ => 0, fun _ => 0, fun _ => y.off, fun _ => False, fun _ => none⟩ 0 trivial rfl rfl
 have hlen := zAa L.g L.k L.len y.l
 have hpl := zAj L.g L.plain y.l
 have cell : ∀ j, j < (y.l.flatMap L.g).length → fzc (Env.all w).fz y.b (y.off + j) = some ((y.l.flatMap L.g).getD j undef) := fun j hj => by
  have := g2 j _ (List.getElem?_eq_getElem hj)
  rw [List.getD_eq_getElem?_getD, List.getElem?_eq_getElem hj, Option.getD_some, ← this]
  unfold fzc World.cell? Env.all
  rfl
 have dv : ∀ (j : Nat) (u : Value), (y.l.flatMap L.g)[j]? = some u → DV (Env.all w).fz u ((y.l.flatMap L.g).getD j undef) := fun j u hj => by
  rw [List.getD_eq_getElem?_getD, hj, Option.getD_some]
  exact .plain _ (List.all_eq_true.1 hpl u (List.mem_of_getElem? hj))
 have hmx : maxLen = 9223372036854775807 := by decide
 obtain ⟨_, ⟨_, rfl⟩ | ⟨hU, _⟩ | ⟨h0, _, a', _, rfl⟩⟩ := hvr.slice_inv
 ·exact .deep _ _ _ _ _ _ _ (.tree L.k _ y.c y.b y.off _ _ (fun j => (y.l.flatMap L.g).getD j undef) hlen g3 g4 (.inl rfl) cell dv)
 ·have : U = 1180591620717411303424 := rfl
  omega
 ·rw [h0]
  have hn : y.l = [] := List.eq_nil_of_length_eq_zero h0
  rw [hn]
  exact .deep _ _ _ _ _ _ _ (.tree L.k 0 0 0 0 [] _ (fun _ => undef) (by simp) (Nat.le_refl _) (Nat.zero_le _) (.inr ⟨rfl, rfl⟩) (fun j hj => by simp at hj) (fun j u hj => by simp at hj))
section
variable {H : Type} {enc : TypeId × Value → H} {w : World} {base : Nat} {spare : Nat → Bool} {held : Bool}
theorem open_msT {r : Reach} {b0 : Nat} (hpos : 0 < w.heap.size) (cs : List Value) (hl : cs.length = 6) (h : ∀ (i : Nat) (u : TypeId) (c : Value), msTypes[i]? = some u → cs[i]? = some c → Cell.okWide Try.prog w r b0 u c ∧ ∃ k y, DataW.trod enc Try.prog w base spare held k u [c] = some y ∧ ∀ n ∈ y.1.weights Try.prog u, n ≤ reachBytes) :
  ∃ m : MsT, m.fit 4398046511104 ∧ VL (Env.all w) m.cs cs := by
 match cs, hl with
 | [c0, c1, c2, c3, c4, c5], _ =>
  obtain ⟨_, _, _, h0, _⟩ := h 0 _ _ rfl rfl
  obtain ⟨_, _, _, h1, _⟩ := h 1 _ _ rfl rfl
  obtain ⟨o2, _, _, h2, w2⟩ := h 2 _ _ rfl rfl
  obtain ⟨o3, _, _, h3, w3⟩ := h 3 _ _ rfl rfl
  obtain ⟨o4, _, _, h4, w4⟩ := h 4 _ _ rfl rfl
  obtain ⟨o5, _, _, h5, w5⟩ := h 5 _ _ rfl rfl
  obtain ⟨x0, rfl⟩ := zEi h0
  obtain ⟨x1, rfl⟩ := zEi h1
  obtain ⟨q, g2, s2, e2⟩ := zDr layQ Try.underlying22 (by kernel_rfl) (fun _ _ _ hy => trod_qu hy) o2 h2 hpos w2
  obtain ⟨an, g3, s3, e3⟩ := zDr layR Try.underlying23 (by kernel_rfl) (fun _ _ _ hy => zNk hy) o3 h3 hpos w3
  obtain ⟨ns, g4, s4, e4⟩ := zDr layR Try.underlying23 (by kernel_rfl) (fun _ _ _ hy => zNk hy) o4 h4 hpos w4
  obtain ⟨ar, g5, s5, e5⟩ := zDr layR Try.underlying23 (by kernel_rfl) (fun _ _ _ hy => zNk hy) o5 h5 hpos w5
  have hR : reachBytes = 140737488351232 := by decide
  have s2 : q.l.length * 32 ≤ reachBytes := bytes_q ▸ s2
  have s3 : an.l.length * 56 ≤ reachBytes := zMa ▸ s3
  have s4 : ns.l.length * 56 ≤ reachBytes := zMa ▸ s4
  have s5 : ar.l.length * 56 ≤ reachBytes := zMa ▸ s5
  exact ⟨⟨x0, x1, q.l, an.l, ns.l, ar.l⟩, ⟨by show q.l.length ≤ _; omega, by show an.l.length ≤ _; omega, by show ns.l.length ≤ _; omega, by show ar.l.length ≤ _; omega⟩,
   .cons _ _ _ _ (.int _ _) (.cons _ _ _ _ (.int _ _) (.cons _ _ _ _ (zDu layQ g2 e2) (.cons _ _ _ _ (zDu layR g3 e3) (.cons _ _ _ _ (zDu layR g4 e4) (.cons _ _ _ _ (zDu layR g5 e5) .nil)))))⟩
theorem open_msgT {r : Reach} {b0 : Nat} {v : Value} {d : DataW H} {p : List MemPlace} (hpos : 0 < w.heap.size) (hv : Value.okWide Try.prog w r b0 25 v) (h : DataW.Trod enc Try.prog w base spare held 25 v d p) (hw : ∀ n ∈ d.weights Try.prog 25, n ≤ reachBytes) :
  ∃ m : MsT, m.fit 4398046511104 ∧ VR (Env.all w) m.v v := by
 obtain ⟨cs, rfl, hl, hf⟩ := zPa (ts := msTypes) Try.underlying25 (by kernel_rfl) (by kernel_rfl) (by kernel_rfl) hv h
 obtain ⟨m, h1, h2⟩ := open_msT hpos cs hl (fun i u c hu hc => by
  obtain ⟨q1, k, y, q2, q3⟩ := hf i u c hu hc
  exact ⟨q1, k, y, q2, fun n hn => hw n (q3 n hn)⟩)
 exact ⟨m, h1, .agg _ _ h2⟩
end
theorem MsT.few {m : MsT} {n : Int} {k : Nat} (hk : n ≤ k) (hf : m.fit 4398046511104) {y : Int} (h : m.big n y = false) : m.q.length + m.an.length + m.ns.length + m.ar.length ≤ k := by
 obtain ⟨h1, h2, h3, h4⟩ := hf
 unfold MsT.big at h
 have h := (Bool.or_eq_false_iff.1 h).1
 have h := of_decide_eq_false h
 unfold MsT.len at h
 rw [wrapM (x := (m.q.length : Int) + (m.an.length : Int)) (by omega) (by omega)] at h
 rw [wrapM (x := (m.q.length : Int) + (m.an.length : Int) + (m.ns.length : Int)) (by omega) (by omega)] at h
 rw [wrapM (by omega) (by omega)] at h
 omega
theorem MsT.few_fit {m : MsT} {n : Int} {k : Nat} (hk : n ≤ k) (hf : m.fit 4398046511104) {y : Int} (h : m.big n y = false) : m.fit k := by
 have := MsT.few hk hf h
 exact ⟨by omega, by omega, by omega, by omega⟩
end Go.Proofs.Ytmhoookhpcfagaa
namespace Go.Proofs.Ytmhoookhpcfagaa
open Go Go.RowKit
noncomputable def inl_topt : Ct Try.prog 0 := Ct.inl (tbOf mixed []) mixed [] 36 Try.f36 Try.func36 (bodyOf Try.f36) (by kernel_rfl)
noncomputable def tbLe : Tb Try.prog 0 := tbOf mixed [inl_topt]
def lst1 (a : Int × Bool) (x : RcX) : Int × Bool := if nop x && (!a.2 || decide (x.ttl < a.1)) then (x.ttl, true) else a
def lst (a : Int × Bool) (l : List RcX) : Int × Bool := l.foldl lst1 a
def leH (m : MsT) : Tr AObj := heap 3 [(0, .cells m.cs 25), (1, .cells [trR m.an, trR m.ns, trR m.ar] 23)]
def leSl (l : List RcX) (idx : Nat) (j : Nat) (a : Int × Bool) : List (Nat × Value) := [(4, .int .i64 a.1), (5, .bool a.2), (16, .slice (some ⟨1, 0, none⟩) 3 3), (17, .int .i64 3), (18, .int .i64 (idx : Nat)), (22, trR l), (23, .int .i64 (l.length : Nat)), (24, .int .i64 (j : Nat))]
theorem zJy (m : MsT) (l : List RcX) (idx : Nat) (a : Int × Bool) (hl : l.length ≤ 1000000) {K : Ex → Fs → Prop} {s : Fs} (h0 : ∃ f, RcM Try.prog 0 0 (1 + (Try.f12.ntmps - 1)) none s ⟨slots 7 (leSl l idx 0 a) f, leH m, 2, [], []⟩)
  (hK : ∀ f, K (.exit 2) ⟨slots 7 (leSl l idx l.length (lst a l)) f, leH m, 2, [], []⟩) : LW Try.prog 0 0 (1 + (Try.f12.ntmps - 1)) none (loopAt Try.f12 1) s K := by
 refine zEy (fun (j : Nat) f => ⟨slots 7 (leSl l idx j (lst a (l.take j))) f, leH m, 2, [], []⟩) (fun j => l.length - j) (fun j => j ≤ l.length) 0 (Nat.zero_le _) h0 ?_
 intro j f hj
 refine zEg tbLe [] 0 _ none mixed _ _ _ ?_
 refine ifK (fun h1 => ?_) (fun h1 => ?_)
 ·have h1 : j < l.length := by have h1 : ((j : Nat) : Int) < (l.length : Int) := of_decide_eq_true h1; omega
  have hst : lst a (l.take (j + 1)) = lst1 (lst a (l.take j)) l[j] := by unfold lst; rw [List.take_succ_eq_append_getElem h1, List.foldl_append]; rfl
  refine ifK (fun _ => ?_) (fun h2 => absurd h2 (by simp [inI]; omega))
  refine Exists.intro l[j].n (Exists.intro l[j].t (Exists.intro l[j].c (Exists.intro l[j].ttl (Exists.intro l[j].d (And.intro (zCb layR h1) ?_)))))
  have hnop : nop l[j] = !(l[j].t == 41) := by unfold nop; rw [show decide (l[j].t = 41) = (l[j].t == 41) from (by simp [BEq.beq])]
  have fin : ∀ (b : Int × Bool), lst1 (lst a (l.take j)) l[j] = b → lst a (l.take (j + 1)) = b := fun b hb => hst.trans hb
  generalize lst a (l.take j) = c at hst fin ⊢
  refine ifK (fun h2 => ?_) (fun h2 => ?_)
  ·have h2 : (!(l[j].t == 41)) = true := h2
   refine ifK (fun h3 => ?_) (fun h3 => ?_)
   ·have h3 : (!c.2) = true := h3
    refine ⟨j + 1, h1, by omega, ?_⟩
    rw [fin (l[j].ttl, true) (by unfold lst1; rw [hnop, h2, h3]; rfl)]
    exact rcq [0, 1] ⟨⟨_, rfl, .int _ _⟩, ⟨_, rfl, .bool _⟩, ⟨_, rfl, .sl _ _ _ _ _ rfl⟩, ⟨_, rfl, .int _ _⟩, ⟨_, rfl, .int _ _⟩, ⟨_, rfl, zAf 8 rfl⟩, ⟨_, rfl, .int _ _⟩, zBd rfl (by rw [wrapN (by omega) (by omega)]; omega), trivial⟩ ⟨⟨by decide, _, rfl, RO.clos rfl⟩, ⟨by decide, _, rfl, RO.clos rfl⟩, trivial⟩ .nil
   ·have h3 : (!c.2) = false := h3
    refine ifK (fun h4 => ?_) (fun h4 => ?_)
    ·have h4 : decide (l[j].ttl < c.1) = true := h4
     refine ⟨j + 1, h1, by omega, ?_⟩
     rw [fin (l[j].ttl, true) (by unfold lst1; rw [hnop, h2, h3, h4]; rfl)]
     exact rcq [0, 1] ⟨⟨_, rfl, .int _ _⟩, ⟨_, rfl, .bool _⟩, ⟨_, rfl, .sl _ _ _ _ _ rfl⟩, ⟨_, rfl, .int _ _⟩, ⟨_, rfl, .int _ _⟩, ⟨_, rfl, zAf 8 rfl⟩, ⟨_, rfl, .int _ _⟩, zBd rfl (by rw [wrapN (by omega) (by omega)]; omega), trivial⟩ ⟨⟨by decide, _, rfl, RO.clos rfl⟩, ⟨by decide, _, rfl, RO.clos rfl⟩, trivial⟩ .nil
    ·have h4 : decide (l[j].ttl < c.1) = false := h4
     refine ⟨j + 1, h1, by omega, ?_⟩
     rw [fin c (by unfold lst1; rw [hnop, h2, h3, h4]; rfl)]
     exact rcq [0, 1] ⟨⟨_, rfl, .int _ _⟩, ⟨_, rfl, .bool _⟩, ⟨_, rfl, .sl _ _ _ _ _ rfl⟩, ⟨_, rfl, .int _ _⟩, ⟨_, rfl, .int _ _⟩, ⟨_, rfl, zAf 8 rfl⟩, ⟨_, rfl, .int _ _⟩, zBd rfl (by rw [wrapN (by omega) (by omega)]; omega), trivial⟩ ⟨⟨by decide, _, rfl, RO.clos rfl⟩, ⟨by decide, _, rfl, RO.clos rfl⟩, trivial⟩ .nil
  ·have h2 : (!(l[j].t == 41)) = false := h2
   refine ⟨j + 1, h1, by omega, ?_⟩
   rw [fin c (by unfold lst1; rw [hnop, h2]; rfl)]
   exact rcq [0, 1] ⟨⟨_, rfl, .int _ _⟩, ⟨_, rfl, .bool _⟩, ⟨_, rfl, .sl _ _ _ _ _ rfl⟩, ⟨_, rfl, .int _ _⟩, ⟨_, rfl, .int _ _⟩, ⟨_, rfl, zAf 8 rfl⟩, ⟨_, rfl, .int _ _⟩, zBd rfl (by rw [wrapN (by omega) (by omega)]; omega), trivial⟩ ⟨⟨by decide, _, rfl, RO.clos rfl⟩, ⟨by decide, _, rfl, RO.clos rfl⟩, trivial⟩ .nil
 ·have h1 : ¬ j < l.length := fun e => absurd (show ((j : Nat) : Int) < (l.length : Int) by omega) (of_decide_eq_false h1)
  have hjl : j = l.length := by omega
  subst hjl
  rw [List.take_length]
  exact And.intro rfl (zFg (rcq [0, 1] (d := 7) (d2 := 3) (lv := leSl l idx l.length (lst a l)) (bs := [(0, .cells m.cs 25), (1, .cells [trR m.an, trR m.ns, trR m.ar] 23)]) (W := []) (m := 2) (df := []) ⟨⟨_, rfl, .int _ _⟩, ⟨_, rfl, .bool _⟩, ⟨_, rfl, .sl _ _ _ _ _ rfl⟩, ⟨_, rfl, .int _ _⟩, ⟨_, rfl, .int _ _⟩, ⟨_, rfl, zAf 8 rfl⟩, ⟨_, rfl, .int _ _⟩, ⟨_, rfl, .int _ _⟩, trivial⟩ ⟨⟨by decide, _, rfl, RO.clos rfl⟩, ⟨by decide, _, rfl, RO.clos rfl⟩, trivial⟩ .nil) hK)
theorem least_tr (m : MsT) (hf : m.fit 1000000) : ∃ r, FnS Try.prog 0 12 [m.v] .e 0 r ∧ ∃ H k wr, r = .ret (.tuple #[.int .i64 (lst (0, false) (m.an ++ m.ns ++ m.ar)).1, .bool (lst (0, false) (m.an ++ m.ns ++ m.ar)).2]) H k wr := by
 obtain ⟨f1, f2, f3, f4⟩ := hf
 have he : lst (0, false) (m.an ++ m.ns ++ m.ar) = lst (lst (lst (0, false) m.an) m.ns) m.ar := by unfold lst; rw [List.foldl_append, List.foldl_append]
 rw [he]
 refine zMl mixed tbLe [] Try.func12 (c := bodyOf Try.f12) (by kernel_rfl) ?_
 refine LW.round (zEg tbLe [] 0 _ none mixed _ _ _ ?_)
 refine zJy m m.an 0 (0, false) f2 (rcq [0, 1] ⟨⟨_, rfl, .int _ _⟩, ⟨_, rfl, .bool _⟩, ⟨_, rfl, .sl _ _ _ _ _ rfl⟩, ⟨_, rfl, .int _ _⟩, ⟨_, rfl, .int _ _⟩, ⟨_, rfl, zAf 8 rfl⟩, ⟨_, rfl, .int _ _⟩, ⟨_, rfl, .int _ _⟩, trivial⟩ ⟨⟨by decide, _, rfl, RO.clos rfl⟩, ⟨by decide, _, rfl, RO.clos rfl⟩, trivial⟩ .nil) (fun f => ?_)
 refine LW.round (zEg tbLe [] 0 _ none mixed _ _ _ ?_)
 refine zJy m m.ns 1 _ f3 (rcq [0, 1] ⟨⟨_, rfl, .int _ _⟩, ⟨_, rfl, .bool _⟩, ⟨_, rfl, .sl _ _ _ _ _ rfl⟩, ⟨_, rfl, .int _ _⟩, ⟨_, rfl, .int _ _⟩, ⟨_, rfl, zAf 8 rfl⟩, ⟨_, rfl, .int _ _⟩, ⟨_, rfl, .int _ _⟩, trivial⟩ ⟨⟨by decide, _, rfl, RO.clos rfl⟩, ⟨by decide, _, rfl, RO.clos rfl⟩, trivial⟩ .nil) (fun f => ?_)
 refine LW.round (zEg tbLe [] 0 _ none mixed _ _ _ ?_)
 refine zJy m m.ar 2 _ f4 (rcq [0, 1] ⟨⟨_, rfl, .int _ _⟩, ⟨_, rfl, .bool _⟩, ⟨_, rfl, .sl _ _ _ _ _ rfl⟩, ⟨_, rfl, .int _ _⟩, ⟨_, rfl, .int _ _⟩, ⟨_, rfl, zAf 8 rfl⟩, ⟨_, rfl, .int _ _⟩, ⟨_, rfl, .int _ _⟩, trivial⟩ ⟨⟨by decide, _, rfl, RO.clos rfl⟩, ⟨by decide, _, rfl, RO.clos rfl⟩, trivial⟩ .nil) (fun f => ?_)
 refine LW.round (zEg tbLe [] 0 _ none mixed _ _ _ ?_)
 exact ⟨_, _, _, rfl⟩
end Go.Proofs.Ytmhoookhpcfagaa
namespace Go.Proofs.Ytmhoookhpcfagaa
open Go Go.RowKit
def otS (l : List RcX) (p : Nat × List RcX) (f : Nat → Option Value) : Fs := match p.2 with
 | [] => ⟨slots 5 [(0, trR l), (3, .slice none 0 0), (4, .int .i64 (p.1 : Nat))] f, heap 0 [], 0, [], []⟩
 | x :: o => ⟨slots 5 [(0, trR l), (3, .slice (some ⟨0, 0, none⟩) (o.length + 1) U), (4, .int .i64 (p.1 : Nat))] f, heap 1 [(0, .cells ((x :: o).flatMap layR.g) 41)], 1, [], []⟩
def otI (l : List RcX) (p : Nat × List RcX) : Prop := p.1 ≤ l.length ∧ p.2 = (l.take p.1).filter nop
theorem otI.step {l : List RcX} {i : Nat} {o : List RcX} (h : otI l (i, o)) (hi : i < l.length) : otI l (i + 1, o ++ [l[i]].filter nop) := by
 refine ⟨hi, ?_⟩
 have h2 : o = (l.take i).filter nop := h.2
 show o ++ [l[i]].filter nop = (l.take (i + 1)).filter nop
 rw [List.take_succ_eq_append_getElem hi, List.filter_append, h2]
theorem others_tr (l : List RcX) (hl : l.length ≤ 1000000) : ∃ r, FnS Try.prog 0 18 [trR l] .e 0 r ∧ ∃ v H m wr, r = .ret v H m wr ∧ FrzP False Try.prog 0 H v (trR (l.filter nop)) := by
 have hz : (Try.prog.types[41]).size = 5 := by kernel_rfl
 have hz' : (Try.prog.info? 41).map (·.size) = some 5 := by kernel_rfl
 have hby : (Try.prog.types[41]).bytes ≤ 100 := by decide +kernel
 refine zMl mixed tbLe [] Try.func18 (c := bodyOf Try.f18) (by kernel_rfl) ?_
 refine zEy (otS l) (fun p => l.length - p.1) (otI l) (0, []) ⟨Nat.zero_le _, rfl⟩ (rcq [] ⟨⟨_, rfl, zAf 8 rfl⟩, ⟨_, rfl, .snil _ _⟩, ⟨_, rfl, .int _ _⟩, trivial⟩ trivial .nil) ?_
 rintro ⟨i, o⟩ f hinv
 have hil : i ≤ l.length := hinv.1
 have ho : o.length ≤ 1000000 := by
  have h2 : o = (l.take i).filter nop := hinv.2
  rw [h2]; exact Nat.le_trans (List.length_filter_le _ _) (by rw [List.length_take]; omega)
 cases o with
 | nil =>
  refine zEg tbLe [] 0 _ none mixed _ _ _ ?_
  refine ifK (fun h1 => ?_) (fun h1 => ?_)
  ·have h1 : i < l.length := by have h1 : ((i : Nat) : Int) < (l.length : Int) := of_decide_eq_true h1; omega
   have hstep := hinv.step h1
   refine ifK (fun _ => ?_) (fun h2 => absurd h2 (by simp [inI]; omega))
   refine Exists.intro l[i].n (Exists.intro l[i].t (Exists.intro l[i].c (Exists.intro l[i].ttl (Exists.intro l[i].d (And.intro (zCb layR h1) ?_)))))
   refine ifK (fun h2 => ?_) (fun h2 => ?_)
   ·have hn : [l[i]].filter nop = [l[i]] := by have h2 : (l[i].t != 41) = true := h2; rw [List.filter_cons_of_pos (by unfold nop; simpa using h2)]; rfl
    rw [hn] at hstep
    refine ifK (fun _ => ?_) (fun h2 => absurd h2 (by simp [inI]; omega))
    refine Exists.intro l[i].n (Exists.intro l[i].t (Exists.intro l[i].c (Exists.intro l[i].ttl (Exists.intro l[i].d (And.intro (zCb layR h1) ?_)))))
    exact ⟨(i + 1, [l[i]]), hstep, by show l.length - (i + 1) < l.length - i; omega, rcq [1] ⟨⟨_, rfl, zAf 8 rfl⟩, ⟨_, rfl, .sl _ _ _ _ _ rfl⟩, zBd rfl (by rw [wrapN (by omega) (by omega)]; omega), trivial⟩ ⟨bpo (zAj layR.g layR.plain [l[i]]), trivial⟩ .nil⟩
   ·have hn : [l[i]].filter nop = [] := by have h2 : (l[i].t != 41) = false := h2; rw [List.filter_cons_of_neg (by unfold nop; simpa using h2)]; rfl
    rw [hn, List.append_nil] at hstep
    exact ⟨(i + 1, []), hstep, by show l.length - (i + 1) < l.length - i; omega, rcq [] ⟨⟨_, rfl, zAf 8 rfl⟩, ⟨_, rfl, .snil _ _⟩, zBd rfl (by rw [wrapN (by omega) (by omega)]; omega), trivial⟩ trivial .nil⟩
  ·have h1 : ¬ i < l.length := fun e => absurd (show ((i : Nat) : Int) < (l.length : Int) by omega) (of_decide_eq_false h1)
   have he : l.filter nop = [] := by have h2 : ([] : List RcX) = (l.take i).filter nop := hinv.2; rw [h2, List.take_of_length_le (by omega)]
   rw [he]
   refine And.intro rfl (zFg (rcq [] (d := 5) (d2 := 0) (lv := [(3, .slice none 0 0)]) (bs := []) (W := []) (m := 0) (df := []) ⟨⟨_, rfl, .snil _ _⟩, trivial⟩ trivial .nil) (fun f => ?_))
   exact ⟨_, _, _, _, rfl, .one _ _ (.nil 5)⟩
 | cons x o =>
  refine zEg tbLe [] 0 _ none mixed _ _ _ ?_
  refine ifK (fun h1 => ?_) (fun h1 => ?_)
  ·have h1 : i < l.length := by have h1 : ((i : Nat) : Int) < (l.length : Int) := of_decide_eq_true h1; omega
   have hstep := hinv.step h1
   refine ifK (fun _ => ?_) (fun h2 => absurd h2 (by simp [inI]; omega))
   refine Exists.intro l[i].n (Exists.intro l[i].t (Exists.intro l[i].c (Exists.intro l[i].ttl (Exists.intro l[i].d (And.intro (zCb layR h1) ?_)))))
   refine ifK (fun h2 => ?_) (fun h2 => ?_)
   ·have hn : [l[i]].filter nop = [l[i]] := by have h2 : (l[i].t != 41) = true := h2; rw [List.filter_cons_of_pos (by unfold nop; simpa using h2)]; rfl
    rw [hn] at hstep
    refine ifK (fun _ => ?_) (fun h2 => absurd h2 (by simp [inI]; omega))
    refine Exists.intro l[i].n (Exists.intro l[i].t (Exists.intro l[i].c (Exists.intro l[i].ttl (Exists.intro l[i].d (And.intro (zCb layR h1) ?_)))))
    have hlen : ((x :: o).flatMap layR.g).length = (o.length + 1) * 5 := zAa layR.g 5 layR.len (x :: o)
    refine And.intro ?_ ?_
    ·have ho2 : o.length + 1 ≤ 1000000 := ho
     have := Nat.mul_le_mul (show o.length + 1 + 1 ≤ 2000000 by omega) hby
     simp only [Bool.and_eq_true, decide_eq_true_eq]
     refine ⟨⟨⟨⟨⟨⟨rfl, rfl⟩, Nat.ble_eq_true_of_le ?_⟩, rfl⟩, ?_⟩, ?_⟩, Nat.ble_eq_true_of_le ?_⟩
     ·rw [hz, hlen]; exact Nat.le_refl _
     ·omega
     ·omega
     ·rw [hz, hlen]; show _ ≤ 0 + (o.length + 1) * 5 + 5; omega
    have hnew : (((x :: o).flatMap layR.g).take ((o.length + 1) * (Try.prog.types[41]).size) ++ layR.g l[i]) = (x :: (o ++ [l[i]])).flatMap layR.g := by
     rw [hz, List.take_of_length_le (by rw [hlen]; exact Nat.le_refl _), ← List.cons_append, List.flatMap_append]; simp
    exact ⟨(i + 1, (x :: o) ++ [l[i]]), hstep, by show l.length - (i + 1) < l.length - i; omega, rcq [2] ⟨⟨_, rfl, zAf 8 rfl⟩, ⟨_, rfl, (by show RV _ (.slice _ (o.length + 1 + 1) U) (.slice _ ((o ++ [l[i]]).length + 1) U); rw [List.length_append]; exact .sl _ _ _ _ _ rfl)⟩, zBd rfl (by rw [wrapN (by omega) (by omega)]; omega), trivial⟩ ⟨⟨by decide, _, rfl, zPe hnew (zAj layR.g layR.plain _)⟩, trivial⟩ .nil⟩
   ·have hn : [l[i]].filter nop = [] := by have h2 : (l[i].t != 41) = false := h2; rw [List.filter_cons_of_neg (by unfold nop; simpa using h2)]; rfl
    rw [hn, List.append_nil] at hstep
    exact ⟨(i + 1, x :: o), hstep, by show l.length - (i + 1) < l.length - i; omega, rcq [0] ⟨⟨_, rfl, zAf 8 rfl⟩, ⟨_, rfl, .sl _ _ _ _ _ rfl⟩, zBd rfl (by rw [wrapN (by omega) (by omega)]; omega), trivial⟩ ⟨bpo (zAj layR.g layR.plain (x :: o)), trivial⟩ .nil⟩
  ·have h1 : ¬ i < l.length := fun e => absurd (show ((i : Nat) : Int) < (l.length : Int) by omega) (of_decide_eq_false h1)
   have he : l.filter nop = x :: o := by have h2 : x :: o = (l.take i).filter nop := hinv.2; rw [h2, List.take_of_length_le (by omega)]
   rw [he]
   refine And.intro rfl (zFg (rcq [0] (d := 5) (d2 := 1) (lv := [(3, .slice (some ⟨0, 0, none⟩) (o.length + 1) U)]) (bs := [(0, .cells ((x :: o).flatMap layR.g) 41)]) (W := []) (m := 1) (df := []) ⟨⟨_, rfl, .sl _ _ _ _ _ rfl⟩, trivial⟩ ⟨bpo (zAj layR.g layR.plain (x :: o)), trivial⟩ .nil) (fun f => ?_))
   exact ⟨_, _, _, _, rfl, .one _ _ (zEw layR (x :: o) (by decide) rfl hz' rfl rfl)⟩
end Go.Proofs.Ytmhoookhpcfagaa
namespace Go.Proofs.Ytmhoookhpcfagaa
open Go Go.RowKit
theorem lst_nop (a : Int × Bool) (l : List RcX) : lst a (l.filter nop) = lst a l := by
 induction l generalizing a with
 | nil => rfl
 | cons x l ih =>
  cases hx : nop x with
  | true => rw [List.filter_cons_of_pos hx]; show lst (lst1 a x) _ = lst (lst1 a x) l; exact ih _
  | false =>
   rw [List.filter_cons_of_neg (by simp [hx])]
   have : lst1 a x = a := by unfold lst1; rw [hx]; rfl
   show lst a _ = lst (lst1 a x) l
   rw [this]; exact ih a
def isLst (l : List RcX) (a : Int × Bool) : Prop := (l = [] ∧ a = (0, false)) ∨ (a.2 = true ∧ (∀ x ∈ l, a.1 ≤ x.ttl) ∧ ∃ x ∈ l, x.ttl = a.1)
theorem lst_snoc {l : List RcX} {a : Int × Bool} (h : isLst l a) {x : RcX} (hx : nop x = true) : isLst (l ++ [x]) (lst1 a x) := by
 unfold lst1
 rw [hx, Bool.true_and]
 right
 rcases h with ⟨rfl, rfl⟩ | ⟨h1, h2, y, h3, h4⟩
 ·simp
 ·rw [h1]
  simp only [Bool.not_true, Bool.false_or]
  by_cases hc : x.ttl < a.1
  ·rw [decide_eq_true hc, if_pos rfl]
   refine ⟨rfl, fun z hz => ?_, x, by simp, rfl⟩
   rcases List.mem_append.1 hz with hz | hz
   ·have := h2 z hz; show x.ttl ≤ z.ttl; omega
   ·simp at hz; subst hz; exact Int.le_refl _
  ·rw [decide_eq_false hc, if_neg (by simp)]
   refine ⟨h1, fun z hz => ?_, y, by simp [h3], h4⟩
   rcases List.mem_append.1 hz with hz | hz
   ·exact h2 z hz
   ·simp at hz; subst hz; omega
theorem lst_is (l : List RcX) : isLst (l.filter nop) (lst (0, false) l) := by
 rw [← lst_nop]
 have key : ∀ (r p : List RcX) (a : Int × Bool), (∀ x ∈ r, nop x = true) → isLst p a → isLst (p ++ r) (lst a r) := by
  intro r
  induction r with
  | nil => intro p a _ h; rw [List.append_nil]; exact h
  | cons x r ih =>
   intro p a hr h
   have := ih (p ++ [x]) (lst1 a x) (fun y hy => hr y (by simp [hy])) (lst_snoc h (hr x (by simp)))
   rw [List.append_assoc] at this; exact this
 have := key (l.filter nop) [] (0, false) (fun x hx => (List.mem_filter.1 hx).2) (.inl ⟨rfl, rfl⟩)
 exact this
noncomputable def inl_big10 : Ct Try.prog 0 := Ct.inl (tbOf mixed [ct_bigMsT]) mixed [] 8 Try.f8 Try.func8 (bodyOf Try.f8) (by kernel_rfl)
noncomputable def ct_leastT : Ct Try.prog 0 := CtR.tree 12 MsT (fun m => [m.v]) (fun m => m.fit 1000000) (fun m => .tuple #[.int .i64 (lst (0, false) (m.an ++ m.ns ++ m.ar)).1, .bool (lst (0, false) (m.an ++ m.ns ++ m.ar)).2]) (fun _ _ h => ms1_inj h) (fun _ => rfl)
 (fun m hf => by obtain ⟨r, hF, H, k, wr, rfl⟩ := least_tr m hf; exact ⟨_, _, _, _, hF, .one _ _ (.plain _ rfl)⟩)
theorem lend_rd {P : Program} {α : Type} (L : Lay α) (x : RdL α) (H : Tr AObj) (hb : x.b < JJ) (hU : x.c = U ∨ (x.l.length ≤ x.c ∧ x.c ≤ maxLen)) (hp : x.pre = []) (hq : H.get x.b = some (.cells (x.l.flatMap L.g) L.t)) (hz : (P.info? L.t).map (·.size) = some L.k) : FrL P 0 H [x.sl] [treeV L.k x.l.length (x.l.flatMap L.g)] := by
 obtain ⟨b, c, pre, l, post⟩ := x
 simp only at hb hU hp hq
 subst hp
 refine .cons _ _ _ _ (.one _ _ ?_) .nil
 have hlen := zAa L.g L.k L.len l
 refine .sl b 0 l.length c L.t L.k _ _ ⟨Nat.zero_le _, hb⟩ hq hz hU (by rw [hlen]; omega) ?_
 rw [List.drop_zero, List.take_of_length_le (by rw [hlen]; exact Nat.le_refl _)]
 exact FzPL.refl (zAj L.g L.plain l)
def OwnL (x : RdL RcX) (H : Tr AObj) : Prop := x.b < JJ ∧ (x.c = U ∨ (x.l.length ≤ x.c ∧ x.c ≤ maxLen)) ∧ x.pre = [] ∧ x.post = [] ∧ H.get x.b = some (.cells (x.l.flatMap layR.g) 41)
theorem OwnL.at {x : RdL RcX} {H : Tr AObj} (h : OwnL x H) : x.at layR H := by
 obtain ⟨_, _, h3, h4, h5⟩ := h
 obtain ⟨b, c, pre, l, post⟩ := x
 simp only at h3 h4 h5
 subst h3; subst h4
 refine ⟨zNd ?_, rfl, rfl⟩
 rw [h5]; show _ = some (AObj.cells ([] ++ l.flatMap layR.g ++ []) layR.t); rw [List.append_nil, List.nil_append]; rfl
noncomputable def ct_othL : Ct Try.prog 0 := CtR.lend 18 (RdL RcX) (fun x => [x.sl]) OwnL (fun x => [trR x.l]) (fun x => x.l.length ≤ 1000000) (fun x => trR (x.l.filter nop))
 (fun x y H h h1 h2 => RdL.uniq (by simpa using h) h1.at h2.at) (fun x H ⟨h1, h2, h3, _, h5⟩ => lend_rd layR x H h1 h2 h3 h5 (by kernel_rfl))
 (fun x hl => by obtain ⟨r, hF, v, H, m, wr, rfl, hz⟩ := others_tr x.l hl; exact ⟨_, _, _, _, hF, hz⟩)
noncomputable def tbTl : Tb Try.prog 0 := tbOf mixed [Ct.yes 17 zJn, inl_big10, ct_stripT, ct_leastT, ct_othL]
def tlSl (F : List RcX) (a : Int × Bool) (p : Nat × Bool) : List (Nat × Value) := [(1, .pointer (some ⟨0, 0, none⟩)), (3, .bool true), (4, .int .i64 a.1), (5, .bool a.2), (6, trR F), (7, .bool p.2), (8, .int .i64 (p.1 : Nat))]
theorem zDk (m : MsT) (hf : m.fit 1000000) {s : Fs}
  (h0 : ∃ f, RcM Try.prog 0 0 (1 + (Try.f4.ntmps - 1)) none s ⟨slots 7 (tlSl ((m.an ++ m.ns ++ m.ar).filter nop) (lst (0, false) (m.an ++ m.ns ++ m.ar)) (0, false)) f, heap 1 [(0, .cells m.cs 25)], 1, [], []⟩) {K : Ex → Fs → Prop}
  (hK : ∀ f, K (.exit 0) ⟨slots 7 (tlSl ((m.an ++ m.ns ++ m.ar).filter nop) (lst (0, false) (m.an ++ m.ns ++ m.ar)) (((m.an ++ m.ns ++ m.ar).filter nop).length, (lst (0, false) (m.an ++ m.ns ++ m.ar)).2)) f, heap 1 [(0, .cells m.cs 25)], 1, [], []⟩) :
  LW Try.prog 0 0 (1 + (Try.f4.ntmps - 1)) none (loopAt Try.f4 0) s K := by
 have hl : ((m.an ++ m.ns ++ m.ar).filter nop).length ≤ 3000000 := by
  obtain ⟨_, h2, h3, h4⟩ := hf
  refine Nat.le_trans (List.length_filter_le _ _) ?_
  rw [List.length_append, List.length_append]; omega
 have hx := lst_is (m.an ++ m.ns ++ m.ar)
 generalize lst (0, false) (m.an ++ m.ns ++ m.ar) = a at h0 hx hK
 generalize (m.an ++ m.ns ++ m.ar).filter nop = F at h0 hx hl hK
 refine zEy (fun (p : Nat × Bool) f => ⟨slots 7 (tlSl F a p) f, heap 1 [(0, .cells m.cs 25)], 1, [], []⟩) (fun p => F.length - p.1) (fun p => p.1 ≤ F.length ∧ p.2 = (F.take p.1).any fun x => x.ttl == a.1) (0, false) ⟨Nat.zero_le _, rfl⟩ h0 ?_
 rintro ⟨i, g⟩ f ⟨hi, hg⟩
 have hi : i ≤ F.length := hi
 have hg : g = (F.take i).any fun x => x.ttl == a.1 := hg
 refine zEg tbTl [] 0 _ none mixed _ _ _ ?_
 refine ifK (fun h1 => ?_) (fun h1 => ?_)
 ·have h1 : i < F.length := by have h1 : ((i : Nat) : Int) < (F.length : Int) := of_decide_eq_true h1; omega
  obtain ⟨h2, h3, _⟩ : a.2 = true ∧ (∀ x ∈ F, a.1 ≤ x.ttl) ∧ ∃ x ∈ F, x.ttl = a.1 := hx.resolve_left (fun ⟨h, _⟩ => by rw [h] at h1; simp at h1)
  have h4 := h3 F[i] (List.getElem_mem h1)
  refine ifK (fun h => absurd (show (!a.2) = true from h) (by rw [h2]; simp)) (fun _ => ?_)
  refine ifK (fun _ => ?_) (fun h2 => absurd h2 (by simp [inI]; omega))
  refine Exists.intro F[i].n (Exists.intro F[i].t (Exists.intro F[i].c (Exists.intro F[i].ttl (Exists.intro F[i].d (And.intro (zCb layR h1) ?_)))))
  refine ifK (fun h => absurd (of_decide_eq_true h) (by show ¬ F[i].ttl < a.1; omega)) (fun _ => ?_)
  have hst : (F.take (i + 1)).any (fun x => x.ttl == a.1) = (g || (F[i].ttl == a.1)) := by rw [List.take_succ_eq_append_getElem h1, List.any_append, ← hg]; simp
  refine ifK (fun h5 => ?_) (fun h5 => ?_)
  ·have h5 : g = true := h5
   exact ⟨(i + 1, g), ⟨h1, by show g = _; rw [hst, h5]; rfl⟩, by show F.length - (i + 1) < F.length - i; omega, rcq [0] ⟨⟨_, rfl, .ptr _ _ _ rfl⟩, ⟨_, rfl, .bool _⟩, ⟨_, rfl, .int _ _⟩, ⟨_, rfl, .bool _⟩, ⟨_, rfl, zAf 8 rfl⟩, (by rw [h5]; exact ⟨_, rfl, .bool _⟩), zBd rfl (by rw [wrapN (by omega) (by omega)]; omega), trivial⟩ ⟨⟨by decide, _, rfl, RO.clos rfl⟩, trivial⟩ .nil⟩
  ·have h5 : g = false := h5
   refine ifK (fun _ => ?_) (fun h2 => absurd h2 (by simp [inI]; omega))
   refine Exists.intro F[i].n (Exists.intro F[i].t (Exists.intro F[i].c (Exists.intro F[i].ttl (Exists.intro F[i].d (And.intro (zCb layR h1) ?_)))))
   exact ⟨(i + 1, F[i].ttl == a.1), ⟨h1, by show (F[i].ttl == a.1) = _; rw [hst, h5]; rfl⟩, by show F.length - (i + 1) < F.length - i; omega, rcq [0] ⟨⟨_, rfl, .ptr _ _ _ rfl⟩, ⟨_, rfl, .bool _⟩, ⟨_, rfl, .int _ _⟩, ⟨_, rfl, .bool _⟩, ⟨_, rfl, zAf 8 rfl⟩, ⟨_, rfl, .bool _⟩, zBd rfl (by rw [wrapN (by omega) (by omega)]; omega), trivial⟩ ⟨⟨by decide, _, rfl, RO.clos rfl⟩, trivial⟩ .nil⟩
 ·have h1 : ¬ i < F.length := fun e => absurd (show ((i : Nat) : Int) < (F.length : Int) by omega) (of_decide_eq_false h1)
  have hil : i = F.length := by omega
  subst hil
  rw [List.take_length] at hg
  have hga : g = a.2 := by
   rw [hg]
   rcases hx with ⟨h, h'⟩ | ⟨h2, h3, y, h4, h5⟩
   ·rw [h, h']; rfl
   ·rw [h2, List.any_eq_true]; exact ⟨y, h4, by simpa using h5⟩
  subst hga
  exact And.intro rfl (zFg (rcq [0] (d := 7) (d2 := 1) (lv := tlSl F a (F.length, a.2)) (bs := [(0, .cells m.cs 25)]) (W := []) (m := 1) (df := []) ⟨⟨_, rfl, .ptr _ _ _ rfl⟩, ⟨_, rfl, .bool _⟩, ⟨_, rfl, .int _ _⟩, ⟨_, rfl, .bool _⟩, ⟨_, rfl, zAf 8 rfl⟩, ⟨_, rfl, .bool _⟩, ⟨_, rfl, .int _ _⟩, trivial⟩ ⟨⟨by decide, _, rfl, RO.clos rfl⟩, trivial⟩ .nil) hK)
end Go.Proofs.Ytmhoookhpcfagaa
namespace Go.Proofs.Ytmhoookhpcfagaa
open Go Go.RowKit
theorem zCd (l : List RcX) : (l.flatMap layR.g).length = l.length * 5 := zAa layR.g 5 layR.len l
theorem len0 {l : List RcX} (h : l.length.beq 0 = true) : l = [] := List.length_eq_zero_iff.1 (Nat.eq_of_beq_eq_true h)
theorem len1 {l : List RcX} (h : l.length.beq 0 = false) : 0 < l.length := by
 rcases Nat.eq_zero_or_pos l.length with e | e
 ·rw [e] at h; cases h
 ·exact e
theorem zAg (m : MsT) : lst (0, false) (m.strip.an ++ m.strip.ns ++ m.strip.ar) = lst (0, false) (m.an ++ m.ns ++ m.ar) := by
 have : m.strip.an ++ m.strip.ns ++ m.strip.ar = (m.an ++ m.ns ++ m.ar).filter nop := by unfold MsT.strip; rw [List.filter_append, List.filter_append]
 rw [this, lst_nop]
theorem oneL_recs (l : List RcX) : oneL (l.flatMap layR.g) = true := by rw [oneL, List.all_flatMap]; exact List.all_eq_true.2 fun x _ => rfl
theorem grow1 {b : Nat} {l : List RcX} (hb : b = 56) (h : l.length ≤ 100) : (decide ((0 + l.length) * b ≤ 140737488355328) && decide (0 + l.length ≤ 9223372036854775807)) = true := by
 subst hb
 simp only [Bool.and_eq_true, decide_eq_true_eq]; omega
theorem grow2 {b z n : Nat} {cs : List Value} {l : List RcX} (hb : b = 56) (hz : z = 5) (hn : n ≤ 200) (hc : cs.length = n * 5) (h : l.length ≤ 100) (hp : 0 < l.length) : (Nat.beq 0 0 && Nat.beq 41 41 && (n * z).ble cs.length && oneL (l.flatMap layR.g) && decide ((n + l.length) * b ≤ 140737488355328) && decide (n + l.length ≤ 9223372036854775807) && cs.length.blt (0 + n * z + (l.flatMap layR.g).length)) = true := by
 subst hb; subst hz
 rw [zCd, hc, oneL_recs]
 simp only [Bool.and_eq_true, decide_eq_true_eq, Nat.ble_eq, Nat.zero_add]
 refine ⟨⟨⟨⟨⟨⟨rfl, rfl⟩, Nat.le_refl _⟩, trivial⟩, by omega⟩, by omega⟩, ?_⟩
 rw [Nat.blt, Nat.ble_eq]; omega
theorem put1 (l : List RcX) : ([] ++ l.flatMap layR.g : List Value) = l.flatMap layR.g := rfl
theorem put2 {z : Nat} {cs : List Value} {a l : List RcX} {n : Nat} (hz : z = 5) (hn : n = a.length) (hc : cs = a.flatMap layR.g) : List.take (n * z) cs ++ l.flatMap layR.g = (a ++ l).flatMap layR.g := by
 subst hz; subst hn; subst hc
 rw [← zCd, List.take_length, List.flatMap_append]
theorem tl_fn (m : MsT) (hf : m.fit 4398046511104) : ∃ r, FnS Try.prog 0 4 [m.v] .e 0 r ∧ ∃ H k wr, r = .ret (.bool true) H k wr := by
 refine zMl mixed tbTl [] Try.func4 (c := bodyOf Try.f4) (by kernel_rfl) ?_
 refine Exists.intro (m, 60, 3000) (And.intro ⟨rfl, ⟨by have := hf.1; show m.q.length ≤ _; omega, by have := hf.2.1; show m.an.length ≤ _; omega, by have := hf.2.2.1; show m.ns.length ≤ _; omega, by have := hf.2.2.2; show m.ar.length ≤ _; omega⟩⟩ ?_)
 refine ifK (fun g => ?_) (fun g => ?_)
 ·exact ⟨_, _, _, rfl⟩
 have g : m.big 60 3000 = false := g
 obtain ⟨hk, _, f2, f3, f4⟩ : m.fit 1000000 ∧ m.fit 100 := by obtain ⟨a, b, c, d⟩ := MsT.few_fit (k := 60) (by omega) hf g; exact ⟨⟨by omega, by omega, by omega, by omega⟩, ⟨by omega, by omega, by omega, by omega⟩⟩
 refine Exists.intro m (And.intro ⟨rfl, hk⟩ ?_)
 refine And.intro (by kernel_rfl) ?_
 refine ifK (fun han => ?_) (fun han => ?_)
 ·have han : m.an = [] := len0 han
  refine ifK (fun hns => ?_) (fun hns => ?_)
  ·have hns : m.ns = [] := len0 hns
   refine ifK (fun har => ?_) (fun har => ?_)
   ·have har : m.ar = [] := len0 har
    refine Exists.intro ⟨2, 0, [], m.an ++ m.ns ++ m.ar, []⟩ (And.intro ?_ ?_)
    ·rw [han, hns, har]
     exact ⟨rfl, ⟨by decide, .inr ⟨Nat.le_refl _, by decide⟩, rfl, rfl, rfl⟩, by decide⟩
    refine zDk m hk ?_ (fun f => ?_)
    ·exact rcq [0] ⟨⟨_, rfl, .ptr _ _ _ rfl⟩, ⟨_, rfl, .bool _⟩, ⟨_, rfl, .int _ _⟩, ⟨_, rfl, .bool _⟩, ⟨_, rfl, zAf 8 rfl⟩, ⟨_, rfl, .bool _⟩, ⟨_, rfl, .int _ _⟩, trivial⟩ ⟨⟨by decide, _, rfl, RO.clos rfl⟩, trivial⟩ .nil
    ·refine Exists.intro m (And.intro ⟨rfl, hk⟩ ?_)
     refine Exists.intro m.strip (And.intro ⟨rfl, MsT.strip_fit hk⟩ ?_)
     refine ifK (fun _ => ?_) (fun h => absurd (show ((lst (0, false) (m.an ++ m.ns ++ m.ar)).2 == (lst (0, false) (m.an ++ m.ns ++ m.ar)).2) = false from h) (by simp))
     refine ifK (fun _ => ?_) (fun h => absurd (show ((lst (0, false) (m.strip.an ++ m.strip.ns ++ m.strip.ar)).2 == (lst (0, false) (m.an ++ m.ns ++ m.ar)).2) = false from h) (by rw [zAg]; simp))
     exact ⟨_, _, _, congrArg (fun b => Res.ret (Value.bool b) _ _ _) (show ((lst (0, false) (m.strip.an ++ m.strip.ns ++ m.strip.ar)).1 == (lst (0, false) (m.an ++ m.ns ++ m.ar)).1) = true by rw [zAg]; simp)⟩
   ·have har : 0 < m.ar.length := len1 har
    refine And.intro (grow1 (by kernel_rfl) f4) ?_
    refine Exists.intro ⟨3, U, [], m.an ++ m.ns ++ m.ar, []⟩ (And.intro ?_ ?_)
    ·have e : m.an ++ m.ns ++ m.ar = m.ar := by simp [han, hns]
     rw [e]
     exact ⟨congrArg (fun n => [Value.slice (some ⟨3, 0, none⟩) n U]) (by simp [Nat.add_assoc]), ⟨by show _ < JJ; simp [JJ], .inl rfl, rfl, rfl, Eq.trans (b := some (AObj.cells ([] ++ m.ar.flatMap layR.g) 41)) (by kernel_rfl) (congrArg (fun c => some (AObj.cells c 41)) <| put1 _)⟩, by simp; omega⟩
    refine zDk m hk ?_ (fun f => ?_)
    ·exact rcq [0] ⟨⟨_, rfl, .ptr _ _ _ rfl⟩, ⟨_, rfl, .bool _⟩, ⟨_, rfl, .int _ _⟩, ⟨_, rfl, .bool _⟩, ⟨_, rfl, zAf 8 rfl⟩, ⟨_, rfl, .bool _⟩, ⟨_, rfl, .int _ _⟩, trivial⟩ ⟨⟨by decide, _, rfl, RO.clos rfl⟩, trivial⟩ .nil
    ·refine Exists.intro m (And.intro ⟨rfl, hk⟩ ?_)
     refine Exists.intro m.strip (And.intro ⟨rfl, MsT.strip_fit hk⟩ ?_)
     refine ifK (fun _ => ?_) (fun h => absurd (show ((lst (0, false) (m.an ++ m.ns ++ m.ar)).2 == (lst (0, false) (m.an ++ m.ns ++ m.ar)).2) = false from h) (by simp))
     refine ifK (fun _ => ?_) (fun h => absurd (show ((lst (0, false) (m.strip.an ++ m.strip.ns ++ m.strip.ar)).2 == (lst (0, false) (m.an ++ m.ns ++ m.ar)).2) = false from h) (by rw [zAg]; simp))
     exact ⟨_, _, _, congrArg (fun b => Res.ret (Value.bool b) _ _ _) (show ((lst (0, false) (m.strip.an ++ m.strip.ns ++ m.strip.ar)).1 == (lst (0, false) (m.an ++ m.ns ++ m.ar)).1) = true by rw [zAg]; simp)⟩
  ·have hns : 0 < m.ns.length := len1 hns
   refine And.intro (grow1 (by kernel_rfl) f3) ?_
   refine ifK (fun har => ?_) (fun har => ?_)
   ·have har : m.ar = [] := len0 har
    refine Exists.intro ⟨3, U, [], m.an ++ m.ns ++ m.ar, []⟩ (And.intro ?_ ?_)
    ·have e : m.an ++ m.ns ++ m.ar = m.ns := by simp [han, har]
     rw [e]
     exact ⟨congrArg (fun n => [Value.slice (some ⟨3, 0, none⟩) n U]) (by simp [Nat.add_assoc]), ⟨by show _ < JJ; simp [JJ], .inl rfl, rfl, rfl, Eq.trans (b := some (AObj.cells ([] ++ m.ns.flatMap layR.g) 41)) (by kernel_rfl) (congrArg (fun c => some (AObj.cells c 41)) <| put1 _)⟩, by simp; omega⟩
    refine zDk m hk ?_ (fun f => ?_)
    ·exact rcq [0] ⟨⟨_, rfl, .ptr _ _ _ rfl⟩, ⟨_, rfl, .bool _⟩, ⟨_, rfl, .int _ _⟩, ⟨_, rfl, .bool _⟩, ⟨_, rfl, zAf 8 rfl⟩, ⟨_, rfl, .bool _⟩, ⟨_, rfl, .int _ _⟩, trivial⟩ ⟨⟨by decide, _, rfl, RO.clos rfl⟩, trivial⟩ .nil
    ·refine Exists.intro m (And.intro ⟨rfl, hk⟩ ?_)
     refine Exists.intro m.strip (And.intro ⟨rfl, MsT.strip_fit hk⟩ ?_)
     refine ifK (fun _ => ?_) (fun h => absurd (show ((lst (0, false) (m.an ++ m.ns ++ m.ar)).2 == (lst (0, false) (m.an ++ m.ns ++ m.ar)).2) = false from h) (by simp))
     refine ifK (fun _ => ?_) (fun h => absurd (show ((lst (0, false) (m.strip.an ++ m.strip.ns ++ m.strip.ar)).2 == (lst (0, false) (m.an ++ m.ns ++ m.ar)).2) = false from h) (by rw [zAg]; simp))
     exact ⟨_, _, _, congrArg (fun b => Res.ret (Value.bool b) _ _ _) (show ((lst (0, false) (m.strip.an ++ m.strip.ns ++ m.strip.ar)).1 == (lst (0, false) (m.an ++ m.ns ++ m.ar)).1) = true by rw [zAg]; simp)⟩
   ·have har : 0 < m.ar.length := len1 har
    refine And.intro (grow2 (by kernel_rfl) (by kernel_rfl) (by omega) (by rw [put1, zCd, Nat.zero_add]) f4 har) ?_
    refine Exists.intro ⟨4, U, [], m.an ++ m.ns ++ m.ar, []⟩ (And.intro ?_ ?_)
    ·have e : m.an ++ m.ns ++ m.ar = m.ns ++ m.ar := by simp [han]
     rw [e]
     exact ⟨congrArg (fun n => [Value.slice (some ⟨4, 0, none⟩) n U]) (by simp [Nat.add_assoc]), ⟨by show _ < JJ; simp [JJ], .inl rfl, rfl, rfl, Eq.trans (b := some (AObj.cells (List.take ((0 + m.ns.length) * 5) ([] ++ m.ns.flatMap layR.g) ++ m.ar.flatMap layR.g) 41)) (by kernel_rfl) (congrArg (fun c => some (AObj.cells c 41)) <| put2 rfl (Nat.zero_add _) (put1 _))⟩, by simp; omega⟩
    refine zDk m hk ?_ (fun f => ?_)
    ·exact rcq [0] ⟨⟨_, rfl, .ptr _ _ _ rfl⟩, ⟨_, rfl, .bool _⟩, ⟨_, rfl, .int _ _⟩, ⟨_, rfl, .bool _⟩, ⟨_, rfl, zAf 8 rfl⟩, ⟨_, rfl, .bool _⟩, ⟨_, rfl, .int _ _⟩, trivial⟩ ⟨⟨by decide, _, rfl, RO.clos rfl⟩, trivial⟩ .nil
    ·refine Exists.intro m (And.intro ⟨rfl, hk⟩ ?_)
     refine Exists.intro m.strip (And.intro ⟨rfl, MsT.strip_fit hk⟩ ?_)
     refine ifK (fun _ => ?_) (fun h => absurd (show ((lst (0, false) (m.an ++ m.ns ++ m.ar)).2 == (lst (0, false) (m.an ++ m.ns ++ m.ar)).2) = false from h) (by simp))
     refine ifK (fun _ => ?_) (fun h => absurd (show ((lst (0, false) (m.strip.an ++ m.strip.ns ++ m.strip.ar)).2 == (lst (0, false) (m.an ++ m.ns ++ m.ar)).2) = false from h) (by rw [zAg]; simp))
     exact ⟨_, _, _, congrArg (fun b => Res.ret (Value.bool b) _ _ _) (show ((lst (0, false) (m.strip.an ++ m.strip.ns ++ m.strip.ar)).1 == (lst (0, false) (m.an ++ m.ns ++ m.ar)).1) = true by rw [zAg]; simp)⟩
 ·have han : 0 < m.an.length := len1 han
  refine And.intro (grow1 (by kernel_rfl) f2) ?_
  refine ifK (fun hns => ?_) (fun hns => ?_)
  ·have hns : m.ns = [] := len0 hns
   refine ifK (fun har => ?_) (fun har => ?_)
   ·have har : m.ar = [] := len0 har
    refine Exists.intro ⟨3, U, [], m.an ++ m.ns ++ m.ar, []⟩ (And.intro ?_ ?_)
    ·have e : m.an ++ m.ns ++ m.ar = m.an := by simp [hns, har]
     rw [e]
     exact ⟨congrArg (fun n => [Value.slice (some ⟨3, 0, none⟩) n U]) (by simp [Nat.add_assoc]), ⟨by show _ < JJ; simp [JJ], .inl rfl, rfl, rfl, Eq.trans (b := some (AObj.cells ([] ++ m.an.flatMap layR.g) 41)) (by kernel_rfl) (congrArg (fun c => some (AObj.cells c 41)) <| put1 _)⟩, by simp; omega⟩
    refine zDk m hk ?_ (fun f => ?_)
    ·exact rcq [0] ⟨⟨_, rfl, .ptr _ _ _ rfl⟩, ⟨_, rfl, .bool _⟩, ⟨_, rfl, .int _ _⟩, ⟨_, rfl, .bool _⟩, ⟨_, rfl, zAf 8 rfl⟩, ⟨_, rfl, .bool _⟩, ⟨_, rfl, .int _ _⟩, trivial⟩ ⟨⟨by decide, _, rfl, RO.clos rfl⟩, trivial⟩ .nil
    ·refine Exists.intro m (And.intro ⟨rfl, hk⟩ ?_)
     refine Exists.intro m.strip (And.intro ⟨rfl, MsT.strip_fit hk⟩ ?_)
     refine ifK (fun _ => ?_) (fun h => absurd (show ((lst (0, false) (m.an ++ m.ns ++ m.ar)).2 == (lst (0, false) (m.an ++ m.ns ++ m.ar)).2) = false from h) (by simp))
     refine ifK (fun _ => ?_) (fun h => absurd (show ((lst (0, false) (m.strip.an ++ m.strip.ns ++ m.strip.ar)).2 == (lst (0, false) (m.an ++ m.ns ++ m.ar)).2) = false from h) (by rw [zAg]; simp))
     exact ⟨_, _, _, congrArg (fun b => Res.ret (Value.bool b) _ _ _) (show ((lst (0, false) (m.strip.an ++ m.strip.ns ++ m.strip.ar)).1 == (lst (0, false) (m.an ++ m.ns ++ m.ar)).1) = true by rw [zAg]; simp)⟩
   ·have har : 0 < m.ar.length := len1 har
    refine And.intro (grow2 (by kernel_rfl) (by kernel_rfl) (by omega) (by rw [put1, zCd, Nat.zero_add]) f4 har) ?_
    refine Exists.intro ⟨4, U, [], m.an ++ m.ns ++ m.ar, []⟩ (And.intro ?_ ?_)
    ·have e : m.an ++ m.ns ++ m.ar = m.an ++ m.ar := by simp [hns]
     rw [e]
     exact ⟨congrArg (fun n => [Value.slice (some ⟨4, 0, none⟩) n U]) (by simp [Nat.add_assoc]), ⟨by show _ < JJ; simp [JJ], .inl rfl, rfl, rfl, Eq.trans (b := some (AObj.cells (List.take ((0 + m.an.length) * 5) ([] ++ m.an.flatMap layR.g) ++ m.ar.flatMap layR.g) 41)) (by kernel_rfl) (congrArg (fun c => some (AObj.cells c 41)) <| put2 rfl (Nat.zero_add _) (put1 _))⟩, by simp; omega⟩
    refine zDk m hk ?_ (fun f => ?_)
    ·exact rcq [0] ⟨⟨_, rfl, .ptr _ _ _ rfl⟩, ⟨_, rfl, .bool _⟩, ⟨_, rfl, .int _ _⟩, ⟨_, rfl, .bool _⟩, ⟨_, rfl, zAf 8 rfl⟩, ⟨_, rfl, .bool _⟩, ⟨_, rfl, .int _ _⟩, trivial⟩ ⟨⟨by decide, _, rfl, RO.clos rfl⟩, trivial⟩ .nil
    ·refine Exists.intro m (And.intro ⟨rfl, hk⟩ ?_)
     refine Exists.intro m.strip (And.intro ⟨rfl, MsT.strip_fit hk⟩ ?_)
     refine ifK (fun _ => ?_) (fun h => absurd (show ((lst (0, false) (m.an ++ m.ns ++ m.ar)).2 == (lst (0, false) (m.an ++ m.ns ++ m.ar)).2) = false from h) (by simp))
     refine ifK (fun _ => ?_) (fun h => absurd (show ((lst (0, false) (m.strip.an ++ m.strip.ns ++ m.strip.ar)).2 == (lst (0, false) (m.an ++ m.ns ++ m.ar)).2) = false from h) (by rw [zAg]; simp))
     exact ⟨_, _, _, congrArg (fun b => Res.ret (Value.bool b) _ _ _) (show ((lst (0, false) (m.strip.an ++ m.strip.ns ++ m.strip.ar)).1 == (lst (0, false) (m.an ++ m.ns ++ m.ar)).1) = true by rw [zAg]; simp)⟩
  ·have hns : 0 < m.ns.length := len1 hns
   refine And.intro (grow2 (by kernel_rfl) (by kernel_rfl) (by omega) (by rw [put1, zCd, Nat.zero_add]) f3 hns) ?_
   refine ifK (fun har => ?_) (fun har => ?_)
   ·have har : m.ar = [] := len0 har
    refine Exists.intro ⟨4, U, [], m.an ++ m.ns ++ m.ar, []⟩ (And.intro ?_ ?_)
    ·have e : m.an ++ m.ns ++ m.ar = m.an ++ m.ns := by simp [har]
     rw [e]
     exact ⟨congrArg (fun n => [Value.slice (some ⟨4, 0, none⟩) n U]) (by simp [Nat.add_assoc]), ⟨by show _ < JJ; simp [JJ], .inl rfl, rfl, rfl, Eq.trans (b := some (AObj.cells (List.take ((0 + m.an.length) * 5) ([] ++ m.an.flatMap layR.g) ++ m.ns.flatMap layR.g) 41)) (by kernel_rfl) (congrArg (fun c => some (AObj.cells c 41)) <| put2 rfl (Nat.zero_add _) (put1 _))⟩, by simp; omega⟩
    refine zDk m hk ?_ (fun f => ?_)
    ·exact rcq [0] ⟨⟨_, rfl, .ptr _ _ _ rfl⟩, ⟨_, rfl, .bool _⟩, ⟨_, rfl, .int _ _⟩, ⟨_, rfl, .bool _⟩, ⟨_, rfl, zAf 8 rfl⟩, ⟨_, rfl, .bool _⟩, ⟨_, rfl, .int _ _⟩, trivial⟩ ⟨⟨by decide, _, rfl, RO.clos rfl⟩, trivial⟩ .nil
    ·refine Exists.intro m (And.intro ⟨rfl, hk⟩ ?_)
     refine Exists.intro m.strip (And.intro ⟨rfl, MsT.strip_fit hk⟩ ?_)
     refine ifK (fun _ => ?_) (fun h => absurd (show ((lst (0, false) (m.an ++ m.ns ++ m.ar)).2 == (lst (0, false) (m.an ++ m.ns ++ m.ar)).2) = false from h) (by simp))
     refine ifK (fun _ => ?_) (fun h => absurd (show ((lst (0, false) (m.strip.an ++ m.strip.ns ++ m.strip.ar)).2 == (lst (0, false) (m.an ++ m.ns ++ m.ar)).2) = false from h) (by rw [zAg]; simp))
     exact ⟨_, _, _, congrArg (fun b => Res.ret (Value.bool b) _ _ _) (show ((lst (0, false) (m.strip.an ++ m.strip.ns ++ m.strip.ar)).1 == (lst (0, false) (m.an ++ m.ns ++ m.ar)).1) = true by rw [zAg]; simp)⟩
   ·have har : 0 < m.ar.length := len1 har
    refine And.intro (grow2 (by kernel_rfl) (by kernel_rfl) (by omega) (by rw [put2 (by kernel_rfl) (Nat.zero_add _) (put1 _), zCd, List.length_append, Nat.zero_add]) f4 har) ?_
    refine Exists.intro ⟨5, U, [], m.an ++ m.ns ++ m.ar, []⟩ (And.intro ?_ ?_)
    ·have e : m.an ++ m.ns ++ m.ar = m.an ++ m.ns ++ m.ar := rfl
     rw [e]
     exact ⟨congrArg (fun n => [Value.slice (some ⟨5, 0, none⟩) n U]) (by simp [Nat.add_assoc]), ⟨by show _ < JJ; simp [JJ], .inl rfl, rfl, rfl, Eq.trans (b := some (AObj.cells (List.take (((0 + m.an.length) + m.ns.length) * 5) (List.take ((0 + m.an.length) * 5) ([] ++ m.an.flatMap layR.g) ++ m.ns.flatMap layR.g) ++ m.ar.flatMap layR.g) 41)) (by kernel_rfl) (congrArg (fun c => some (AObj.cells c 41)) <| put2 rfl (by rw [List.length_append, Nat.zero_add]) (put2 rfl (Nat.zero_add _) (put1 _)))⟩, by simp; omega⟩
    refine zDk m hk ?_ (fun f => ?_)
    ·exact rcq [0] ⟨⟨_, rfl, .ptr _ _ _ rfl⟩, ⟨_, rfl, .bool _⟩, ⟨_, rfl, .int _ _⟩, ⟨_, rfl, .bool _⟩, ⟨_, rfl, zAf 8 rfl⟩, ⟨_, rfl, .bool _⟩, ⟨_, rfl, .int _ _⟩, trivial⟩ ⟨⟨by decide, _, rfl, RO.clos rfl⟩, trivial⟩ .nil
    ·refine Exists.intro m (And.intro ⟨rfl, hk⟩ ?_)
     refine Exists.intro m.strip (And.intro ⟨rfl, MsT.strip_fit hk⟩ ?_)
     refine ifK (fun _ => ?_) (fun h => absurd (show ((lst (0, false) (m.an ++ m.ns ++ m.ar)).2 == (lst (0, false) (m.an ++ m.ns ++ m.ar)).2) = false from h) (by simp))
     refine ifK (fun _ => ?_) (fun h => absurd (show ((lst (0, false) (m.strip.an ++ m.strip.ns ++ m.strip.ar)).2 == (lst (0, false) (m.an ++ m.ns ++ m.ar)).2) = false from h) (by rw [zAg]; simp))
     exact ⟨_, _, _, congrArg (fun b => Res.ret (Value.bool b) _ _ _) (show ((lst (0, false) (m.strip.an ++ m.strip.ns ++ m.strip.ar)).1 == (lst (0, false) (m.an ++ m.ns ++ m.ar)).1) = true by rw [zAg]; simp)⟩
end Go.Proofs.Ytmhoookhpcfagaa
