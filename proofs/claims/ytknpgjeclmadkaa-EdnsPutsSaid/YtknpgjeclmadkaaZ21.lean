/- DERIVED. Texts put together: A6, Ta1, Ep1, Ep2, Ep3, Et5, Rc1, Ep4, Ep5, Ep6, Ta2, Et8, Ep7. -/
import Derived.SizedLaws
import Derived.Test.YtknpgjeclmadkaaZ14
import Derived.Test.YtknpgjeclmadkaaZ15
import Derived.Test.YtknpgjeclmadkaaZ17
import Derived.Test.YtknpgjeclmadkaaZ20
set_option maxRecDepth 1000000
set_option maxHeartbeats 32000000
namespace Go.Proofs.Ytknpgjeclmadkaa
open Go Go.Joins Go.ChangeShapes Go.WideShapes Go.RowKit Go.Deep
section
variable {H : Type} {enc : TypeId × Value → H} {P : Program} {w : World} {base : Nat} {spare : Nat → Bool} {held : Bool}
theorem zJy : ∀ (n : Nat) (t : TypeId) (ts : List TypeId) (m : Nat) (cs : List Value) (x : DataW H × List MemPlace), flatOK P n t ts = true → DataW.trod enc P w base spare held m t cs = some x → cs.length = ts.length → ∀ (i : Nat) (u : TypeId) (v : Value), ts[i]? = some u → cs[i]? = some v → ∃ k y, DataW.trod enc P w base spare held k u [v] = some y ∧ ∀ n ∈ y.1.weights P u, n ∈ x.1.weights P t
 | 0, _, _, _, _, _, h, _, _, _, _, _, _, _ => by cases h
 | n + 1, t, ts, m, cs, x, h, hx, hlen, i, u, v, hu, hv => by
  unfold flatOK at h
  split at h
  ·rename_i fs hs
   simp only [Bool.and_eq_true] at h
   obtain ⟨⟨h1, h2⟩, h3⟩ := h
   obtain ⟨xs, n', _, hxe, hl, hxl, hf⟩ := DataW.trod_struct hs hx
   have hi : i < ts.length := (List.getElem?_eq_some_iff.1 hu).1
   have h3 := List.all_eq_true.1 h3 i (List.mem_range.2 hi)
   obtain ⟨f, hfm, h4⟩ := List.any_eq_true.1 h3
   simp only [Bool.and_eq_true] at h4
   have ha := Nat.le_of_ble_eq_true h4.1
   have hb : i < f.offset + P.cellsOf f.type := Nat.le_of_ble_eq_true h4.2
   obtain ⟨j, hj⟩ := List.getElem?_of_mem hfm
   have hj' : fs[j]? = some f := by rw [← Array.getElem?_toList]; exact hj
   have hjl : j < xs.length := by rw [hxl]; exact (Array.getElem?_eq_some_iff.1 hj').1
   have hg := hf j f hj'
   rw [List.getElem?_eq_getElem hjl] at hg
   have hk := List.all_eq_true.1 h2 f hfm
   obtain ⟨k, y, r1, r2⟩ := zJy n f.type _ n' _ _ hk hg (by simp only [List.length_take, List.length_drop, hlen]) (i - f.offset) u v
    (by rw [List.getElem?_take_of_lt (by omega), List.getElem?_drop, show f.offset + (i - f.offset) = i by omega]; exact hu)
    (by rw [List.getElem?_take_of_lt (by omega), List.getElem?_drop, show f.offset + (i - f.offset) = i by omega]; exact hv)
   refine ⟨k, y, r1, fun q hq => ?_⟩
   rw [hxe]
   show q ∈ DataW.weights P t (.agg (xs.map (·.1)))
   unfold DataW.weights
   simp only [hs]
   exact DataW.weights_mem_each (j := j) (t := f.type) (d := (xs[j]'hjl).1) (by rw [List.getElem?_map, hj]; rfl) (by rw [List.getElem?_map, List.getElem?_eq_getElem hjl]; rfl) q (r2 q hq)
  ·split at h
   ·rename_i u'
    have := Nat.eq_of_beq_eq_true h
    subst this
    have hc : cs.length = 1 := hlen
    match cs, hc with
    | [c], _ =>
     cases i with
     | zero =>
      simp only [List.getElem?_cons_zero, Option.some.injEq] at hu hv
      subst hu; subst hv
      exact ⟨m, x, hx, fun q hq => hq⟩
     | succ i => simp at hu
   ·cases h
theorem zKc {r : Reach} {b0 : Nat} {t : TypeId} {fs : Array Field} {ts : List TypeId} {v : Value} {d : DataW H} {p : List MemPlace} (hs : P.underlying t = some (.struct fs)) (ht : flatOK P 8 t ts = true) (hC : P.cellsOf t = ts.length) (hct : P.cellTypes P.depth t = some ts)
  (hv : Value.okWide P w r b0 t v) (h : DataW.Trod enc P w base spare held t v d p) :
  ∃ cs : List Value, v = .agg ⟨cs⟩ ∧ cs.length = ts.length ∧ ∀ (i : Nat) (u : TypeId) (c : Value), ts[i]? = some u → cs[i]? = some c → Cell.okWide P w r b0 u c ∧ ∃ k y, DataW.trod enc P w base spare held k u [c] = some y ∧ ∀ n ∈ y.1.weights P u, n ∈ d.weights P t := by
 simp only [Value.okWide, hs] at hv
 obtain ⟨⟨cs⟩, rfl, hsz, ts', h1, _, h2⟩ := hv
 rw [hct] at h1
 cases h1
 obtain ⟨fuel, hf⟩ := h
 have hl : cs.length = ts.length := by rw [← hC]; exact hsz
 refine ⟨cs, rfl, hl, fun i u c hu hc => ⟨?_, ?_⟩⟩
 ·have hi : i < ts.length := (List.getElem?_eq_some_iff.1 hu).1
  obtain ⟨u', h3, h4⟩ := h2 i c (by simpa using hc)
  rw [Nat.mod_eq_of_lt hi, hu] at h3
  cases h3
  exact h4
 ·exact zJy 8 t ts fuel cs _ ht hf hl i u c hu hc
theorem vr_len {E : Env} {b o n c len cap : Nat} {a : Option Addr} (h : VR E (.slice (some ⟨b, o, none⟩) n c) (.slice a len cap)) : n ≤ len := by
 cases h <;> first | exact Nat.le_refl _ | exact Nat.zero_le _
theorem zCy {α : Type} (L : Lay α) {r : Reach} {b0 : Nat} {t e : TypeId} {v : Value} {fuel R : Nat} {x : DataW H × List MemPlace} (ht : P.underlying t = some (.slice e)) (hC : P.cellsOf e = L.k)
  (hopen : ∀ n cs y, DataW.trod enc P w base spare held n e cs = some y → ∃ x, cs = L.g x) (hv : Cell.okWide P w r b0 t v) (h : DataW.trod enc P w base spare held fuel t [v] = some x) (hpos : 0 < w.heap.size) (hw : ∀ n ∈ x.1.weights P t, n ≤ R) :
  ∃ y : WinL α, y.good L w ∧ y.l.length * P.bytesOf e ≤ R ∧ ∀ (E : Env) (k : Nat), E.dom k → E.ρ k = y.b → E.sh k = y.off → VR E (y.sl k) v := by
 obtain ⟨y, h1, h2⟩ := open_winl L ht hC hopen hv h hpos
 refine ⟨y, h1, ?_, h2⟩
 have hvr := h2 ⟨fun _ => True, fun _ => y.b, fun _ => 0, fun _ => 0, fun _ => y.off, fun _ => False, fun _ => none⟩ 0 trivial rfl rfl
 rcases open_slice ht h with ⟨h0, _⟩ | ⟨a, len, cap, m, n, D, Pl, hcs, _, _, _, _, hx, _⟩
 ·simp only [List.cons.injEq, and_true] at h0
  subst h0
  have : y.l.length = 0 := Nat.le_zero.1 (vr_len (b := 0) (o := 0) (c := y.c) hvr)
  rw [this, Nat.zero_mul]; exact Nat.zero_le _
 ·simp only [List.cons.injEq, and_true] at hcs
  subst hcs
  have hle : y.l.length ≤ len := vr_len (b := 0) (o := 0) (c := y.c) hvr
  have hq := hw ((len + (m - len)) * P.bytesOf e) (by
   rw [hx]
   show _ ∈ DataW.weights P t (.slice _ _)
   unfold DataW.weights
   simp only [ht, List.length_map, List.length_range]
   exact List.mem_cons_self ..)
  exact Nat.le_trans (Nat.mul_le_mul_right _ (by omega)) hq
end
def WinM.small (m : WinM) : Prop := m.q.l.length ≤ 4398046511104 ∧ m.an.l.length ≤ 4398046511104 ∧ m.ns.l.length ≤ 4398046511104 ∧ m.ar.l.length ≤ 4398046511104
section
variable {H : Type} {enc : TypeId × Value → H} {w : World} {base : Nat} {spare : Nat → Bool} {held : Bool}
theorem bytes_q : Try.prog.bytesOf 57 = 32 := by kernel_rfl
theorem zNs : Try.prog.bytesOf 48 = 56 := by kernel_rfl
theorem weigh {ts : List TypeId} {ds : List (DataW H)} (h : (DataW.weightsEach Try.prog ts ds).all (· ≤ reachBytes) = true) {j : Nat} {t : TypeId} {d : DataW H} (ht : ts[j]? = some t) (hd : ds[j]? = some d) : ∀ n ∈ d.weights Try.prog t, n ≤ reachBytes := fun n hn => by
 have := List.all_eq_true.1 h n (DataW.weights_mem_each ht hd n hn)
 exact of_decide_eq_true this
end
end Go.Proofs.Ytknpgjeclmadkaa
namespace Go.Proofs.Ytknpgjeclmadkaa
open Go Go.Joins Go.ChangeShapes Go.WideShapes Go.RowKit Go.Deep
theorem zDb {α : Type} (L : Lay α) {w : World} {y : WinL α} (hg : y.good L w) {v : Value} (h : ∀ (E : Env) (k : Nat), E.dom k → E.ρ k = y.b → E.sh k = y.off → VR E (y.sl k) v) : VR (Env.all w) (treeV L.k y.l.length (y.l.flatMap L.g)) v := by
 obtain ⟨g1, g2, g3, g4⟩ := hg
 have hvr : VR ⟨fun _ => True, fun _ => y.b, fun _ => 0, fun _ => 0, fun _ => y.off, fun _ => False, fun _ => none⟩ (.slice (some ⟨0, 0, none⟩) y.l.length y.c) v := h ⟨fun _ => True, fun _ => y.b, fun _ => 0, fun _ => 0, fun _ => y.off, fun _ => False, fun _ => none⟩ 0 trivial rfl rfl
 have hlen := zAb L.g L.k L.len y.l
 have hpl := zAc L.g L.plain y.l
 have cell : ∀ j, j < (y.l.flatMap L.g).length → fzc (Env.all w).fz y.b (y.off + j) = some ((y.l.flatMap L.g).getD j undef) := fun j hj => by
  have := g2 j _ (List.getElem?_eq_getElem hj)
  rw [List.getD_eq_getElem?_getD, List.getElem?_eq_getElem hj, Option.getD_some, ← this]
  unfold fzc World.cell? Env.all
  rfl
 have dv : ∀ (j : Nat) (u : Value), (y.l.flatMap L.g)[j]? = some u → DV (Env.all w).fz u ((y.l.flatMap L.g).getD j undef) := fun j u hj => by
  rw [List.getD_eq_getElem?_getD, hj, Option.getD_some]
  exact .plain _ (List.all_eq_true.1 hpl u (List.mem_of_getElem? hj))
 have hmx : maxLen = 9223372036854775807 := by decide
 obtain ⟨_, ⟨_, rfl⟩ | ⟨hU, _⟩ | ⟨h0, _, a', _, rfl⟩⟩ := hvr.slice_inv
 ·exact .deep _ _ _ _ _ _ _ (.tree L.k _ y.c y.b y.off _ _ (fun j => (y.l.flatMap L.g).getD j undef) hlen g3 g4 (.inl rfl) cell dv)
 ·have : U = 1180591620717411303424 := rfl
  omega
 ·rw [h0]
  have hn : y.l = [] := List.eq_nil_of_length_eq_zero h0
  rw [hn]
  exact .deep _ _ _ _ _ _ _ (.tree L.k 0 0 0 0 [] _ (fun _ => undef) (by simp) (Nat.le_refl _) (Nat.zero_le _) (.inr ⟨rfl, rfl⟩) (fun j hj => by simp at hj) (fun j u hj => by simp at hj))
section
variable {H : Type} {enc : TypeId × Value → H} {w : World} {base : Nat} {spare : Nat → Bool} {held : Bool}
theorem open_msT {r : Reach} {b0 : Nat} (hpos : 0 < w.heap.size) (cs : List Value) (hl : cs.length = 6) (h : ∀ (i : Nat) (u : TypeId) (c : Value), msTypes[i]? = some u → cs[i]? = some c → Cell.okWide Try.prog w r b0 u c ∧ ∃ k y, DataW.trod enc Try.prog w base spare held k u [c] = some y ∧ ∀ n ∈ y.1.weights Try.prog u, n ≤ reachBytes) :
  ∃ m : MsT, m.fit 4398046511104 ∧ VL (Env.all w) m.cs cs := by
 match cs, hl with
 | [c0, c1, c2, c3, c4, c5], _ =>
  obtain ⟨_, _, _, h0, _⟩ := h 0 _ _ rfl rfl
  obtain ⟨_, _, _, h1, _⟩ := h 1 _ _ rfl rfl
  obtain ⟨o2, _, _, h2, w2⟩ := h 2 _ _ rfl rfl
  obtain ⟨o3, _, _, h3, w3⟩ := h 3 _ _ rfl rfl
  obtain ⟨o4, _, _, h4, w4⟩ := h 4 _ _ rfl rfl
  obtain ⟨o5, _, _, h5, w5⟩ := h 5 _ _ rfl rfl
  obtain ⟨x0, rfl⟩ := zCl h0
  obtain ⟨x1, rfl⟩ := zCl h1
  obtain ⟨q, g2, s2, e2⟩ := zCy layQ Try.underlying22 (by kernel_rfl) (fun _ _ _ hy => trod_qu hy) o2 h2 hpos w2
  obtain ⟨an, g3, s3, e3⟩ := zCy layR Try.underlying23 (by kernel_rfl) (fun _ _ _ hy => zPc hy) o3 h3 hpos w3
  obtain ⟨ns, g4, s4, e4⟩ := zCy layR Try.underlying23 (by kernel_rfl) (fun _ _ _ hy => zPc hy) o4 h4 hpos w4
  obtain ⟨ar, g5, s5, e5⟩ := zCy layR Try.underlying23 (by kernel_rfl) (fun _ _ _ hy => zPc hy) o5 h5 hpos w5
  have hR : reachBytes = 140737488351232 := by decide
  have s2 : q.l.length * 32 ≤ reachBytes := bytes_q ▸ s2
  have s3 : an.l.length * 56 ≤ reachBytes := zNs ▸ s3
  have s4 : ns.l.length * 56 ≤ reachBytes := zNs ▸ s4
  have s5 : ar.l.length * 56 ≤ reachBytes := zNs ▸ s5
  exact ⟨⟨x0, x1, q.l, an.l, ns.l, ar.l⟩, ⟨by show q.l.length ≤ _; omega, by show an.l.length ≤ _; omega, by show ns.l.length ≤ _; omega, by show ar.l.length ≤ _; omega⟩,
   .cons _ _ _ _ (.int _ _) (.cons _ _ _ _ (.int _ _) (.cons _ _ _ _ (zDb layQ g2 e2) (.cons _ _ _ _ (zDb layR g3 e3) (.cons _ _ _ _ (zDb layR g4 e4) (.cons _ _ _ _ (zDb layR g5 e5) .nil)))))⟩
theorem open_msgT {r : Reach} {b0 : Nat} {v : Value} {d : DataW H} {p : List MemPlace} (hpos : 0 < w.heap.size) (hv : Value.okWide Try.prog w r b0 25 v) (h : DataW.Trod enc Try.prog w base spare held 25 v d p) (hw : ∀ n ∈ d.weights Try.prog 25, n ≤ reachBytes) :
  ∃ m : MsT, m.fit 4398046511104 ∧ VR (Env.all w) m.v v := by
 obtain ⟨cs, rfl, hl, hf⟩ := zKc (ts := msTypes) Try.underlying25 (by kernel_rfl) (by kernel_rfl) (by kernel_rfl) hv h
 obtain ⟨m, h1, h2⟩ := open_msT hpos cs hl (fun i u c hu hc => by
  obtain ⟨q1, k, y, q2, q3⟩ := hf i u c hu hc
  exact ⟨q1, k, y, q2, fun n hn => hw n (q3 n hn)⟩)
 exact ⟨m, h1, .agg _ _ h2⟩
end
theorem MsT.few {m : MsT} {n : Int} {k : Nat} (hk : n ≤ k) (hf : m.fit 4398046511104) {y : Int} (h : m.big n y = false) : m.q.length + m.an.length + m.ns.length + m.ar.length ≤ k := by
 obtain ⟨h1, h2, h3, h4⟩ := hf
 unfold MsT.big at h
 have h := (Bool.or_eq_false_iff.1 h).1
 have h := of_decide_eq_false h
 unfold MsT.len at h
 rw [wrapM (x := (m.q.length : Int) + (m.an.length : Int)) (by omega) (by omega)] at h
 rw [wrapM (x := (m.q.length : Int) + (m.an.length : Int) + (m.ns.length : Int)) (by omega) (by omega)] at h
 rw [wrapM (by omega) (by omega)] at h
 omega
theorem MsT.few_fit {m : MsT} {n : Int} {k : Nat} (hk : n ≤ k) (hf : m.fit 4398046511104) {y : Int} (h : m.big n y = false) : m.fit k := by
 have := MsT.few hk hf h
 exact ⟨by omega, by omega, by omega, by omega⟩
end Go.Proofs.Ytknpgjeclmadkaa
namespace Go.Proofs.Ytknpgjeclmadkaa
open Go Go.RowKit
def bigO (y : Int) (o : OpX) : Bool := decide ((o.d.size : Int) > y)
noncomputable def tbEp0 : Tb Try.prog 0 := tbOf mixed []
theorem bigE_tr (e : EdX) (n y : Int) (hl : e.o.length ≤ 9223372036854775807) : ∃ r, FnS Try.prog 0 9 [e.v, .int .i64 n, .int .i64 y] .e 0 r ∧ ∃ H m wr, r = .ret (.bool (e.o.any (bigO y) || decide ((e.o.length : Int) > n))) H m wr := by
 refine zCe mixed tbEp0 [] Try.func9 (c := bodyOf Try.f9) (by kernel_rfl) ?_
 refine zAi (fun (i : Nat) f => ⟨slots 6 [(1, .int .i64 n), (2, .int .i64 y), (3, .pointer (some ⟨0, 0, none⟩)), (7, .int .i64 (i : Nat))] f, heap 1 [(0, .cells e.cs 28)], 1, [], []⟩) (fun i => e.o.length - i) (fun i => i ≤ e.o.length ∧ e.o.any (bigO y) = (e.o.drop i).any (bigO y)) 0 ⟨Nat.zero_le _, rfl⟩ (rcq [0] ⟨⟨_, rfl, .int _ _⟩, ⟨_, rfl, .int _ _⟩, ⟨_, rfl, .ptr _ _ _ rfl⟩, ⟨_, rfl, .int _ _⟩, trivial⟩ ⟨⟨by decide, _, rfl, RO.clos rfl⟩, trivial⟩ .nil) ?_
 rintro i f ⟨hi, heq⟩
 refine zAq tbEp0 [] 0 _ none mixed _ _ _ ?_
 refine ifK (fun h1 => ?_) (fun h1 => ?_)
 ·have h1 : i < e.o.length := by have h1 : ((i : Nat) : Int) < (e.o.length : Int) := of_decide_eq_true h1; omega
  have hst : (e.o.drop i).any (bigO y) = (bigO y e.o[i] || (e.o.drop (i + 1)).any (bigO y)) := by rw [List.drop_eq_getElem_cons h1]; rfl
  rw [hst] at heq
  refine ifK (fun _ => ?_) (fun h2 => absurd h2 (by simp [inI]; omega))
  refine Exists.intro e.o[i].c (Exists.intro e.o[i].d (And.intro (zAe layO h1) ?_))
  refine ifK (fun h2 => ?_) (fun h2 => ?_)
  ·have q : e.o.any (bigO y) = true := by rw [heq]; unfold bigO; rw [show decide ((e.o[i].d.size : Int) > y) = true from h2]; rfl
   refine And.intro rfl (zAn (rcq [] (d := 6) (d2 := 0) (lv := [(6, .bool true)]) (bs := []) (W := []) (m := 0) (df := []) ⟨⟨_, rfl, zCg 8 rfl⟩, trivial⟩ trivial .nil) (fun f => ?_))
   rw [q]; exact ⟨_, _, _, rfl⟩
  ·refine ⟨i + 1, ⟨h1, ?_⟩, by show e.o.length - (i + 1) < e.o.length - i; omega, rcq [0] ⟨⟨_, rfl, .int _ _⟩, ⟨_, rfl, .int _ _⟩, ⟨_, rfl, .ptr _ _ _ rfl⟩, zAa rfl (by rw [wrapN (by omega) (by omega)]; omega), trivial⟩ ⟨⟨by decide, _, rfl, RO.clos rfl⟩, trivial⟩ .nil⟩
   rw [heq]; unfold bigO; rw [show decide ((e.o[i].d.size : Int) > y) = false from h2]; rfl
 ·have h1 : ¬ i < e.o.length := by have h1 : ¬ ((i : Nat) : Int) < (e.o.length : Int) := of_decide_eq_false h1; omega
  have q : e.o.any (bigO y) = false := by rw [heq, List.drop_eq_nil_of_le (by omega)]; rfl
  refine And.intro rfl (zAn (rcq [0] (d := 6) (d2 := 1) (lv := [(1, .int .i64 n), (3, .pointer (some ⟨0, 0, none⟩))]) (bs := [(0, .cells e.cs 28)]) (W := []) (m := 1) (df := []) ⟨⟨_, rfl, .int _ _⟩, ⟨_, rfl, .ptr _ _ _ rfl⟩, trivial⟩ ⟨⟨by decide, _, rfl, RO.clos rfl⟩, trivial⟩ .nil) (fun f => ?_))
  rw [q]; exact ⟨_, _, _, rfl⟩
noncomputable def ct_bigET : Ct Try.prog 0 := CtR.tree 9 (EdX × Int × Int) (fun x => [x.1.v, .int .i64 x.2.1, .int .i64 x.2.2]) (fun x => x.1.o.length ≤ 9223372036854775807) (fun x => .bool (x.1.o.any (bigO x.2.2) || decide ((x.1.o.length : Int) > x.2.1))) (fun a b h => by simp only [List.cons.injEq, Value.int.injEq, true_and, and_true] at h; exact Prod.ext (EdX.v_inj h.1) (Prod.ext h.2.1 h.2.2)) (fun _ => rfl)
 (fun x hl => by obtain ⟨r, hF, H, m, wr, rfl⟩ := bigE_tr x.1 x.2.1 x.2.2 hl; exact ⟨_, _, _, _, hF, .one _ _ (.plain _ rfl)⟩)
def okC (o : OpX) : Bool := decide (o.c ≥ 0) && decide (o.c ≤ 65535)
def sumO : List OpX → Nat
 | [] => 0
 | o :: l => sumO l + (4 + o.d.size)
theorem zAg {l : List OpX} {i : Nat} (h : i < l.length) : sumO (l.take (i + 1)) = sumO (l.take i) + (4 + l[i].d.size) := by
 induction l generalizing i with
 | nil => cases h
 | cons o l ih =>
  cases i with
  | zero => rfl
  | succ i =>
   have h' : i < l.length := by simpa using h
   have := ih (i := i) h'
   show sumO (l.take (i + 1)) + _ = (sumO (l.take i) + _) + _
   rw [this]
   show _ = sumO (l.take i) + (4 + o.d.size) + (4 + (l[i]'h').d.size)
   omega
theorem zOx {B : Nat} : ∀ {l : List OpX}, (∀ o ∈ l, o.d.size ≤ B) → sumO l ≤ l.length * (4 + B)
 | [], _ => Nat.zero_le _
 | o :: l, h => by
  have h1 := zOx (l := l) fun x hx => h x (List.mem_cons_of_mem _ hx)
  have h2 := h o (List.mem_cons_self ..)
  show sumO l + _ ≤ (l.length + 1) * (4 + B)
  rw [Nat.add_mul]; omega
def fineE (e : EdX) : Bool := decide (e.size ≥ 0) && (decide (e.size ≤ 65535) && (decide (e.ext ≥ 0) && (decide (e.ext ≤ 127) && (decide (e.ver ≥ 0) && decide (e.ver ≤ 255)))))
def chkE (e : EdX) : Int := if (fineE e && e.o.all okC) = false then 5 else if sumO e.o > 65535 then 2 else 0
noncomputable def tbEp1 : Tb Try.prog 0 := tbOf mixed [zRa]
noncomputable def tbEp2 : Tb Try.prog 0 := tbOf mixed [zRb]
def EdX.small (e : EdX) : Prop := e.o.length ≤ 1000 ∧ ∀ o ∈ e.o, o.d.size ≤ 1000000
theorem zBm {l : List OpX} {i : Nat} (h : i < l.length) : (l.take (i + 1)).all okC = ((l.take i).all okC && okC l[i]) := by rw [List.take_succ_eq_append_getElem h, List.all_append]; simp
theorem chk_tr (e : EdX) (hs : e.small) : ∃ r, FnS Try.prog 0 15 [e.v] .e 0 r ∧ ∃ H m wr, r = .ret (.int .i64 (chkE e)) H m wr := by
 obtain ⟨hl, hb⟩ := hs
 have hsum : ∀ i, i ≤ e.o.length → sumO (e.o.take i) ≤ 1000004000 := fun i hi => Nat.le_trans (zOx fun o ho => hb o (List.mem_of_mem_take ho)) (by rw [List.length_take, Nat.min_eq_left hi]; omega)
 refine zCe mixed tbEp1 [] Try.func15 (c := bodyOf Try.f15) (by kernel_rfl) ?_
 refine ifK (fun g0 => ?_) (fun g0 => ?_)
 rotate_left
 ·have hg : fineE e = false := by have g : decide (e.size ≥ 0) = false := g0; unfold fineE; rw [g]; simp
  refine zAi (fun (p : Nat × Bool) f => ⟨slots 6 [(3, .int .i64 ((sumO (e.o.take p.1) : Nat) : Int)), (4, .bool p.2), (21, trO e.o), (22, .int .i64 (e.o.length : Nat)), (23, .int .i64 (p.1 : Nat))] f, heap 0 [], 0, [], []⟩) (fun p => e.o.length - p.1) (fun p => p.1 ≤ e.o.length ∧ p.2 = (fineE e && (e.o.take p.1).all okC)) (0, false) ⟨Nat.zero_le _, by rw [hg]; simp⟩ (rcq [] ⟨⟨_, rfl, .int _ _⟩, ⟨_, rfl, .bool _⟩, ⟨_, rfl, zAd 8 rfl⟩, ⟨_, rfl, .int _ _⟩, ⟨_, rfl, .int _ _⟩, trivial⟩ trivial .nil) ?_
  rintro ⟨i, b⟩ f ⟨hi, hb2⟩
  have hi : i ≤ e.o.length := hi
  have hb2 : b = (fineE e && (e.o.take i).all okC) := hb2
  refine zAq tbEp1 [] 0 _ none mixed _ _ _ ?_
  refine ifK (fun h1 => ?_) (fun h1 => ?_)
  ·have h1 : i < e.o.length := by have h1 : ((i : Nat) : Int) < (e.o.length : Int) := of_decide_eq_true h1; omega
   have hw : IntKind.i64.wrap (((sumO (e.o.take i) : Nat) : Int) + IntKind.i64.wrap (4 + (e.o[i].d.size : Int))) = ((sumO (e.o.take (i + 1)) : Nat) : Int) := by have := hsum (i + 1) h1; have e1 := zAg h1; rw [wrapN (x := 4 + (e.o[i].d.size : Int)) (by omega) (by omega), wrapN (by omega) (by omega)]; omega
   have hw2 : IntKind.i64.wrap (IntKind.i64.wrap (((sumO (e.o.take i) : Nat) : Int) + 4) + (e.o[i].d.size : Int)) = ((sumO (e.o.take (i + 1)) : Nat) : Int) := by have := hsum (i + 1) h1; have e1 := zAg h1; have e3 : IntKind.i64.wrap (((sumO (e.o.take i) : Nat) : Int) + 4) = ((sumO (e.o.take i) + 4 : Nat) : Int) := (by rw [wrapN (by omega) (by omega)]; omega); rw [e3, wrapN (by omega) (by omega)]; omega
   have ha := zBm h1
   refine ifK (fun _ => ?_) (fun h2 => absurd h2 (by simp [inI]; omega))
   refine Exists.intro e.o[i].c (Exists.intro e.o[i].d (And.intro (zAe layO h1) ?_))
   refine ifK (fun hb1 => ?_) (fun hb1 => ?_)
   ·have hb1 : b = true := hb1
    rw [hb1] at hb2
    refine ifK (fun h3 => ?_) (fun h3 => ?_)
    ·exact ⟨(i + 1, decide (e.o[i].c ≤ 65535)), ⟨h1, by show _ = (fineE e && (e.o.take (i + 1)).all okC); rw [ha, ← Bool.and_assoc, ← hb2]; unfold okC; rw [show decide (e.o[i].c ≥ 0) = true from h3]; rfl⟩, by show e.o.length - (i + 1) < e.o.length - i; omega, rcq [] ⟨zAa rfl hw, ⟨_, rfl, .bool _⟩, ⟨_, rfl, zAd 8 rfl⟩, ⟨_, rfl, .int _ _⟩, zAa rfl (by rw [wrapN (by omega) (by omega)]; omega), trivial⟩ trivial .nil⟩
    ·exact ⟨(i + 1, false), ⟨h1, by show _ = (fineE e && (e.o.take (i + 1)).all okC); rw [ha, ← Bool.and_assoc, ← hb2]; unfold okC; rw [show decide (e.o[i].c ≥ 0) = false from h3]; rfl⟩, by show e.o.length - (i + 1) < e.o.length - i; omega, rcq [] ⟨zAa rfl hw, ⟨_, rfl, .bool _⟩, ⟨_, rfl, zAd 8 rfl⟩, ⟨_, rfl, .int _ _⟩, zAa rfl (by rw [wrapN (by omega) (by omega)]; omega), trivial⟩ trivial .nil⟩
   ·have hb1 : b = false := hb1
    rw [hb1] at hb2
    exact ⟨(i + 1, false), ⟨h1, by show _ = (fineE e && (e.o.take (i + 1)).all okC); rw [ha, ← Bool.and_assoc, ← hb2]; rfl⟩, by show e.o.length - (i + 1) < e.o.length - i; omega, rcq [] ⟨zAa rfl hw, ⟨_, rfl, .bool _⟩, ⟨_, rfl, zAd 8 rfl⟩, ⟨_, rfl, .int _ _⟩, zAa rfl (by rw [wrapN (by omega) (by omega)]; omega), trivial⟩ trivial .nil⟩
  ·have h1 : ¬ i < e.o.length := by have h1 : ¬ ((i : Nat) : Int) < (e.o.length : Int) := of_decide_eq_false h1; omega
   have hil : i = e.o.length := by omega
   subst hil
   rw [List.take_length] at hb2
   refine And.intro rfl (zAn (rcq [] (d := 6) (d2 := 0) (lv := [(3, .int .i64 ((sumO (e.o.take e.o.length) : Nat) : Int)), (4, .bool b)]) (bs := []) (W := []) (m := 0) (df := []) ⟨⟨_, rfl, .int _ _⟩, ⟨_, rfl, .bool _⟩, trivial⟩ trivial .nil) (fun f => ?_))
   refine ifK (fun hb1 => ?_) (fun hb1 => ?_)
   ·have hb1 : (!b) = true := hb1
    have hb1 : b = false := by simpa using hb1
    rw [show chkE e = 5 by unfold chkE; rw [if_pos (by rw [← hb2, hb1])]]
    exact ⟨_, _, _, rfl⟩
   have hb1 : (!b) = false := hb1
   have hb1 : b = true := by simpa using hb1
   refine ifK (fun h5 => ?_) (fun h5 => ?_)
   ·have h5 : decide (((sumO (e.o.take e.o.length) : Nat) : Int) > 65535) = true := h5
    rw [List.take_length] at h5
    rw [show chkE e = 2 by unfold chkE; rw [if_neg (by rw [← hb2, hb1]; simp), if_pos (by have := of_decide_eq_true h5; omega)]]
    exact ⟨_, _, _, rfl⟩
   ·have h5 : decide (((sumO (e.o.take e.o.length) : Nat) : Int) > 65535) = false := h5
    rw [List.take_length] at h5
    rw [show chkE e = 0 by unfold chkE; rw [if_neg (by rw [← hb2, hb1]; simp), if_neg (by have := of_decide_eq_false h5; omega)]]
    exact ⟨_, _, _, rfl⟩
 refine ifK (fun g1 => ?_) (fun g1 => ?_)
 rotate_left
 ·have hg : fineE e = false := by have g : decide (e.size ≤ 65535) = false := g1; unfold fineE; rw [g]; simp
  refine zAi (fun (p : Nat × Bool) f => ⟨slots 6 [(3, .int .i64 ((sumO (e.o.take p.1) : Nat) : Int)), (4, .bool p.2), (21, trO e.o), (22, .int .i64 (e.o.length : Nat)), (23, .int .i64 (p.1 : Nat))] f, heap 0 [], 0, [], []⟩) (fun p => e.o.length - p.1) (fun p => p.1 ≤ e.o.length ∧ p.2 = (fineE e && (e.o.take p.1).all okC)) (0, false) ⟨Nat.zero_le _, by rw [hg]; simp⟩ (rcq [] ⟨⟨_, rfl, .int _ _⟩, ⟨_, rfl, .bool _⟩, ⟨_, rfl, zAd 8 rfl⟩, ⟨_, rfl, .int _ _⟩, ⟨_, rfl, .int _ _⟩, trivial⟩ trivial .nil) ?_
  rintro ⟨i, b⟩ f ⟨hi, hb2⟩
  have hi : i ≤ e.o.length := hi
  have hb2 : b = (fineE e && (e.o.take i).all okC) := hb2
  refine zAq tbEp1 [] 0 _ none mixed _ _ _ ?_
  refine ifK (fun h1 => ?_) (fun h1 => ?_)
  ·have h1 : i < e.o.length := by have h1 : ((i : Nat) : Int) < (e.o.length : Int) := of_decide_eq_true h1; omega
   have hw : IntKind.i64.wrap (((sumO (e.o.take i) : Nat) : Int) + IntKind.i64.wrap (4 + (e.o[i].d.size : Int))) = ((sumO (e.o.take (i + 1)) : Nat) : Int) := by have := hsum (i + 1) h1; have e1 := zAg h1; rw [wrapN (x := 4 + (e.o[i].d.size : Int)) (by omega) (by omega), wrapN (by omega) (by omega)]; omega
   have hw2 : IntKind.i64.wrap (IntKind.i64.wrap (((sumO (e.o.take i) : Nat) : Int) + 4) + (e.o[i].d.size : Int)) = ((sumO (e.o.take (i + 1)) : Nat) : Int) := by have := hsum (i + 1) h1; have e1 := zAg h1; have e3 : IntKind.i64.wrap (((sumO (e.o.take i) : Nat) : Int) + 4) = ((sumO (e.o.take i) + 4 : Nat) : Int) := (by rw [wrapN (by omega) (by omega)]; omega); rw [e3, wrapN (by omega) (by omega)]; omega
   have ha := zBm h1
   refine ifK (fun _ => ?_) (fun h2 => absurd h2 (by simp [inI]; omega))
   refine Exists.intro e.o[i].c (Exists.intro e.o[i].d (And.intro (zAe layO h1) ?_))
   refine ifK (fun hb1 => ?_) (fun hb1 => ?_)
   ·have hb1 : b = true := hb1
    rw [hb1] at hb2
    refine ifK (fun h3 => ?_) (fun h3 => ?_)
    ·exact ⟨(i + 1, decide (e.o[i].c ≤ 65535)), ⟨h1, by show _ = (fineE e && (e.o.take (i + 1)).all okC); rw [ha, ← Bool.and_assoc, ← hb2]; unfold okC; rw [show decide (e.o[i].c ≥ 0) = true from h3]; rfl⟩, by show e.o.length - (i + 1) < e.o.length - i; omega, rcq [] ⟨zAa rfl hw, ⟨_, rfl, .bool _⟩, ⟨_, rfl, zAd 8 rfl⟩, ⟨_, rfl, .int _ _⟩, zAa rfl (by rw [wrapN (by omega) (by omega)]; omega), trivial⟩ trivial .nil⟩
    ·exact ⟨(i + 1, false), ⟨h1, by show _ = (fineE e && (e.o.take (i + 1)).all okC); rw [ha, ← Bool.and_assoc, ← hb2]; unfold okC; rw [show decide (e.o[i].c ≥ 0) = false from h3]; rfl⟩, by show e.o.length - (i + 1) < e.o.length - i; omega, rcq [] ⟨zAa rfl hw, ⟨_, rfl, .bool _⟩, ⟨_, rfl, zAd 8 rfl⟩, ⟨_, rfl, .int _ _⟩, zAa rfl (by rw [wrapN (by omega) (by omega)]; omega), trivial⟩ trivial .nil⟩
   ·have hb1 : b = false := hb1
    rw [hb1] at hb2
    exact ⟨(i + 1, false), ⟨h1, by show _ = (fineE e && (e.o.take (i + 1)).all okC); rw [ha, ← Bool.and_assoc, ← hb2]; rfl⟩, by show e.o.length - (i + 1) < e.o.length - i; omega, rcq [] ⟨zAa rfl hw, ⟨_, rfl, .bool _⟩, ⟨_, rfl, zAd 8 rfl⟩, ⟨_, rfl, .int _ _⟩, zAa rfl (by rw [wrapN (by omega) (by omega)]; omega), trivial⟩ trivial .nil⟩
  ·have h1 : ¬ i < e.o.length := by have h1 : ¬ ((i : Nat) : Int) < (e.o.length : Int) := of_decide_eq_false h1; omega
   have hil : i = e.o.length := by omega
   subst hil
   rw [List.take_length] at hb2
   refine And.intro rfl (zAn (rcq [] (d := 6) (d2 := 0) (lv := [(3, .int .i64 ((sumO (e.o.take e.o.length) : Nat) : Int)), (4, .bool b)]) (bs := []) (W := []) (m := 0) (df := []) ⟨⟨_, rfl, .int _ _⟩, ⟨_, rfl, .bool _⟩, trivial⟩ trivial .nil) (fun f => ?_))
   refine ifK (fun hb1 => ?_) (fun hb1 => ?_)
   ·have hb1 : (!b) = true := hb1
    have hb1 : b = false := by simpa using hb1
    rw [show chkE e = 5 by unfold chkE; rw [if_pos (by rw [← hb2, hb1])]]
    exact ⟨_, _, _, rfl⟩
   have hb1 : (!b) = false := hb1
   have hb1 : b = true := by simpa using hb1
   refine ifK (fun h5 => ?_) (fun h5 => ?_)
   ·have h5 : decide (((sumO (e.o.take e.o.length) : Nat) : Int) > 65535) = true := h5
    rw [List.take_length] at h5
    rw [show chkE e = 2 by unfold chkE; rw [if_neg (by rw [← hb2, hb1]; simp), if_pos (by have := of_decide_eq_true h5; omega)]]
    exact ⟨_, _, _, rfl⟩
   ·have h5 : decide (((sumO (e.o.take e.o.length) : Nat) : Int) > 65535) = false := h5
    rw [List.take_length] at h5
    rw [show chkE e = 0 by unfold chkE; rw [if_neg (by rw [← hb2, hb1]; simp), if_neg (by have := of_decide_eq_false h5; omega)]]
    exact ⟨_, _, _, rfl⟩
 refine ifK (fun g2 => ?_) (fun g2 => ?_)
 rotate_left
 ·have hg : fineE e = false := by have g : decide (e.ext ≥ 0) = false := g2; unfold fineE; rw [g]; simp
  refine zAi (fun (p : Nat × Bool) f => ⟨slots 6 [(3, .int .i64 ((sumO (e.o.take p.1) : Nat) : Int)), (4, .bool p.2), (21, trO e.o), (22, .int .i64 (e.o.length : Nat)), (23, .int .i64 (p.1 : Nat))] f, heap 0 [], 0, [], []⟩) (fun p => e.o.length - p.1) (fun p => p.1 ≤ e.o.length ∧ p.2 = (fineE e && (e.o.take p.1).all okC)) (0, false) ⟨Nat.zero_le _, by rw [hg]; simp⟩ (rcq [] ⟨⟨_, rfl, .int _ _⟩, ⟨_, rfl, .bool _⟩, ⟨_, rfl, zAd 8 rfl⟩, ⟨_, rfl, .int _ _⟩, ⟨_, rfl, .int _ _⟩, trivial⟩ trivial .nil) ?_
  rintro ⟨i, b⟩ f ⟨hi, hb2⟩
  have hi : i ≤ e.o.length := hi
  have hb2 : b = (fineE e && (e.o.take i).all okC) := hb2
  refine zAq tbEp1 [] 0 _ none mixed _ _ _ ?_
  refine ifK (fun h1 => ?_) (fun h1 => ?_)
  ·have h1 : i < e.o.length := by have h1 : ((i : Nat) : Int) < (e.o.length : Int) := of_decide_eq_true h1; omega
   have hw : IntKind.i64.wrap (((sumO (e.o.take i) : Nat) : Int) + IntKind.i64.wrap (4 + (e.o[i].d.size : Int))) = ((sumO (e.o.take (i + 1)) : Nat) : Int) := by have := hsum (i + 1) h1; have e1 := zAg h1; rw [wrapN (x := 4 + (e.o[i].d.size : Int)) (by omega) (by omega), wrapN (by omega) (by omega)]; omega
   have hw2 : IntKind.i64.wrap (IntKind.i64.wrap (((sumO (e.o.take i) : Nat) : Int) + 4) + (e.o[i].d.size : Int)) = ((sumO (e.o.take (i + 1)) : Nat) : Int) := by have := hsum (i + 1) h1; have e1 := zAg h1; have e3 : IntKind.i64.wrap (((sumO (e.o.take i) : Nat) : Int) + 4) = ((sumO (e.o.take i) + 4 : Nat) : Int) := (by rw [wrapN (by omega) (by omega)]; omega); rw [e3, wrapN (by omega) (by omega)]; omega
   have ha := zBm h1
   refine ifK (fun _ => ?_) (fun h2 => absurd h2 (by simp [inI]; omega))
   refine Exists.intro e.o[i].c (Exists.intro e.o[i].d (And.intro (zAe layO h1) ?_))
   refine ifK (fun hb1 => ?_) (fun hb1 => ?_)
   ·have hb1 : b = true := hb1
    rw [hb1] at hb2
    refine ifK (fun h3 => ?_) (fun h3 => ?_)
    ·exact ⟨(i + 1, decide (e.o[i].c ≤ 65535)), ⟨h1, by show _ = (fineE e && (e.o.take (i + 1)).all okC); rw [ha, ← Bool.and_assoc, ← hb2]; unfold okC; rw [show decide (e.o[i].c ≥ 0) = true from h3]; rfl⟩, by show e.o.length - (i + 1) < e.o.length - i; omega, rcq [] ⟨zAa rfl hw, ⟨_, rfl, .bool _⟩, ⟨_, rfl, zAd 8 rfl⟩, ⟨_, rfl, .int _ _⟩, zAa rfl (by rw [wrapN (by omega) (by omega)]; omega), trivial⟩ trivial .nil⟩
    ·exact ⟨(i + 1, false), ⟨h1, by show _ = (fineE e && (e.o.take (i + 1)).all okC); rw [ha, ← Bool.and_assoc, ← hb2]; unfold okC; rw [show decide (e.o[i].c ≥ 0) = false from h3]; rfl⟩, by show e.o.length - (i + 1) < e.o.length - i; omega, rcq [] ⟨zAa rfl hw, ⟨_, rfl, .bool _⟩, ⟨_, rfl, zAd 8 rfl⟩, ⟨_, rfl, .int _ _⟩, zAa rfl (by rw [wrapN (by omega) (by omega)]; omega), trivial⟩ trivial .nil⟩
   ·have hb1 : b = false := hb1
    rw [hb1] at hb2
    exact ⟨(i + 1, false), ⟨h1, by show _ = (fineE e && (e.o.take (i + 1)).all okC); rw [ha, ← Bool.and_assoc, ← hb2]; rfl⟩, by show e.o.length - (i + 1) < e.o.length - i; omega, rcq [] ⟨zAa rfl hw, ⟨_, rfl, .bool _⟩, ⟨_, rfl, zAd 8 rfl⟩, ⟨_, rfl, .int _ _⟩, zAa rfl (by rw [wrapN (by omega) (by omega)]; omega), trivial⟩ trivial .nil⟩
  ·have h1 : ¬ i < e.o.length := by have h1 : ¬ ((i : Nat) : Int) < (e.o.length : Int) := of_decide_eq_false h1; omega
   have hil : i = e.o.length := by omega
   subst hil
   rw [List.take_length] at hb2
   refine And.intro rfl (zAn (rcq [] (d := 6) (d2 := 0) (lv := [(3, .int .i64 ((sumO (e.o.take e.o.length) : Nat) : Int)), (4, .bool b)]) (bs := []) (W := []) (m := 0) (df := []) ⟨⟨_, rfl, .int _ _⟩, ⟨_, rfl, .bool _⟩, trivial⟩ trivial .nil) (fun f => ?_))
   refine ifK (fun hb1 => ?_) (fun hb1 => ?_)
   ·have hb1 : (!b) = true := hb1
    have hb1 : b = false := by simpa using hb1
    rw [show chkE e = 5 by unfold chkE; rw [if_pos (by rw [← hb2, hb1])]]
    exact ⟨_, _, _, rfl⟩
   have hb1 : (!b) = false := hb1
   have hb1 : b = true := by simpa using hb1
   refine ifK (fun h5 => ?_) (fun h5 => ?_)
   ·have h5 : decide (((sumO (e.o.take e.o.length) : Nat) : Int) > 65535) = true := h5
    rw [List.take_length] at h5
    rw [show chkE e = 2 by unfold chkE; rw [if_neg (by rw [← hb2, hb1]; simp), if_pos (by have := of_decide_eq_true h5; omega)]]
    exact ⟨_, _, _, rfl⟩
   ·have h5 : decide (((sumO (e.o.take e.o.length) : Nat) : Int) > 65535) = false := h5
    rw [List.take_length] at h5
    rw [show chkE e = 0 by unfold chkE; rw [if_neg (by rw [← hb2, hb1]; simp), if_neg (by have := of_decide_eq_false h5; omega)]]
    exact ⟨_, _, _, rfl⟩
 refine ifK (fun g3 => ?_) (fun g3 => ?_)
 rotate_left
 ·have hg : fineE e = false := by have g : decide (e.ext ≤ 127) = false := g3; unfold fineE; rw [g]; simp
  refine zAi (fun (p : Nat × Bool) f => ⟨slots 6 [(3, .int .i64 ((sumO (e.o.take p.1) : Nat) : Int)), (4, .bool p.2), (21, trO e.o), (22, .int .i64 (e.o.length : Nat)), (23, .int .i64 (p.1 : Nat))] f, heap 0 [], 0, [], []⟩) (fun p => e.o.length - p.1) (fun p => p.1 ≤ e.o.length ∧ p.2 = (fineE e && (e.o.take p.1).all okC)) (0, false) ⟨Nat.zero_le _, by rw [hg]; simp⟩ (rcq [] ⟨⟨_, rfl, .int _ _⟩, ⟨_, rfl, .bool _⟩, ⟨_, rfl, zAd 8 rfl⟩, ⟨_, rfl, .int _ _⟩, ⟨_, rfl, .int _ _⟩, trivial⟩ trivial .nil) ?_
  rintro ⟨i, b⟩ f ⟨hi, hb2⟩
  have hi : i ≤ e.o.length := hi
  have hb2 : b = (fineE e && (e.o.take i).all okC) := hb2
  refine zAq tbEp1 [] 0 _ none mixed _ _ _ ?_
  refine ifK (fun h1 => ?_) (fun h1 => ?_)
  ·have h1 : i < e.o.length := by have h1 : ((i : Nat) : Int) < (e.o.length : Int) := of_decide_eq_true h1; omega
   have hw : IntKind.i64.wrap (((sumO (e.o.take i) : Nat) : Int) + IntKind.i64.wrap (4 + (e.o[i].d.size : Int))) = ((sumO (e.o.take (i + 1)) : Nat) : Int) := by have := hsum (i + 1) h1; have e1 := zAg h1; rw [wrapN (x := 4 + (e.o[i].d.size : Int)) (by omega) (by omega), wrapN (by omega) (by omega)]; omega
   have hw2 : IntKind.i64.wrap (IntKind.i64.wrap (((sumO (e.o.take i) : Nat) : Int) + 4) + (e.o[i].d.size : Int)) = ((sumO (e.o.take (i + 1)) : Nat) : Int) := by have := hsum (i + 1) h1; have e1 := zAg h1; have e3 : IntKind.i64.wrap (((sumO (e.o.take i) : Nat) : Int) + 4) = ((sumO (e.o.take i) + 4 : Nat) : Int) := (by rw [wrapN (by omega) (by omega)]; omega); rw [e3, wrapN (by omega) (by omega)]; omega
   have ha := zBm h1
   refine ifK (fun _ => ?_) (fun h2 => absurd h2 (by simp [inI]; omega))
   refine Exists.intro e.o[i].c (Exists.intro e.o[i].d (And.intro (zAe layO h1) ?_))
   refine ifK (fun hb1 => ?_) (fun hb1 => ?_)
   ·have hb1 : b = true := hb1
    rw [hb1] at hb2
    refine ifK (fun h3 => ?_) (fun h3 => ?_)
    ·exact ⟨(i + 1, decide (e.o[i].c ≤ 65535)), ⟨h1, by show _ = (fineE e && (e.o.take (i + 1)).all okC); rw [ha, ← Bool.and_assoc, ← hb2]; unfold okC; rw [show decide (e.o[i].c ≥ 0) = true from h3]; rfl⟩, by show e.o.length - (i + 1) < e.o.length - i; omega, rcq [] ⟨zAa rfl hw, ⟨_, rfl, .bool _⟩, ⟨_, rfl, zAd 8 rfl⟩, ⟨_, rfl, .int _ _⟩, zAa rfl (by rw [wrapN (by omega) (by omega)]; omega), trivial⟩ trivial .nil⟩
    ·exact ⟨(i + 1, false), ⟨h1, by show _ = (fineE e && (e.o.take (i + 1)).all okC); rw [ha, ← Bool.and_assoc, ← hb2]; unfold okC; rw [show decide (e.o[i].c ≥ 0) = false from h3]; rfl⟩, by show e.o.length - (i + 1) < e.o.length - i; omega, rcq [] ⟨zAa rfl hw, ⟨_, rfl, .bool _⟩, ⟨_, rfl, zAd 8 rfl⟩, ⟨_, rfl, .int _ _⟩, zAa rfl (by rw [wrapN (by omega) (by omega)]; omega), trivial⟩ trivial .nil⟩
   ·have hb1 : b = false := hb1
    rw [hb1] at hb2
    exact ⟨(i + 1, false), ⟨h1, by show _ = (fineE e && (e.o.take (i + 1)).all okC); rw [ha, ← Bool.and_assoc, ← hb2]; rfl⟩, by show e.o.length - (i + 1) < e.o.length - i; omega, rcq [] ⟨zAa rfl hw, ⟨_, rfl, .bool _⟩, ⟨_, rfl, zAd 8 rfl⟩, ⟨_, rfl, .int _ _⟩, zAa rfl (by rw [wrapN (by omega) (by omega)]; omega), trivial⟩ trivial .nil⟩
  ·have h1 : ¬ i < e.o.length := by have h1 : ¬ ((i : Nat) : Int) < (e.o.length : Int) := of_decide_eq_false h1; omega
   have hil : i = e.o.length := by omega
   subst hil
   rw [List.take_length] at hb2
   refine And.intro rfl (zAn (rcq [] (d := 6) (d2 := 0) (lv := [(3, .int .i64 ((sumO (e.o.take e.o.length) : Nat) : Int)), (4, .bool b)]) (bs := []) (W := []) (m := 0) (df := []) ⟨⟨_, rfl, .int _ _⟩, ⟨_, rfl, .bool _⟩, trivial⟩ trivial .nil) (fun f => ?_))
   refine ifK (fun hb1 => ?_) (fun hb1 => ?_)
   ·have hb1 : (!b) = true := hb1
    have hb1 : b = false := by simpa using hb1
    rw [show chkE e = 5 by unfold chkE; rw [if_pos (by rw [← hb2, hb1])]]
    exact ⟨_, _, _, rfl⟩
   have hb1 : (!b) = false := hb1
   have hb1 : b = true := by simpa using hb1
   refine ifK (fun h5 => ?_) (fun h5 => ?_)
   ·have h5 : decide (((sumO (e.o.take e.o.length) : Nat) : Int) > 65535) = true := h5
    rw [List.take_length] at h5
    rw [show chkE e = 2 by unfold chkE; rw [if_neg (by rw [← hb2, hb1]; simp), if_pos (by have := of_decide_eq_true h5; omega)]]
    exact ⟨_, _, _, rfl⟩
   ·have h5 : decide (((sumO (e.o.take e.o.length) : Nat) : Int) > 65535) = false := h5
    rw [List.take_length] at h5
    rw [show chkE e = 0 by unfold chkE; rw [if_neg (by rw [← hb2, hb1]; simp), if_neg (by have := of_decide_eq_false h5; omega)]]
    exact ⟨_, _, _, rfl⟩
 refine ifK (fun g4 => ?_) (fun g4 => ?_)
 rotate_left
 ·have hg : fineE e = false := by have g : decide (e.ver ≥ 0) = false := g4; unfold fineE; rw [g]; simp
  refine zAi (fun (p : Nat × Bool) f => ⟨slots 6 [(3, .int .i64 ((sumO (e.o.take p.1) : Nat) : Int)), (4, .bool p.2), (21, trO e.o), (22, .int .i64 (e.o.length : Nat)), (23, .int .i64 (p.1 : Nat))] f, heap 0 [], 0, [], []⟩) (fun p => e.o.length - p.1) (fun p => p.1 ≤ e.o.length ∧ p.2 = (fineE e && (e.o.take p.1).all okC)) (0, false) ⟨Nat.zero_le _, by rw [hg]; simp⟩ (rcq [] ⟨⟨_, rfl, .int _ _⟩, ⟨_, rfl, .bool _⟩, ⟨_, rfl, zAd 8 rfl⟩, ⟨_, rfl, .int _ _⟩, ⟨_, rfl, .int _ _⟩, trivial⟩ trivial .nil) ?_
  rintro ⟨i, b⟩ f ⟨hi, hb2⟩
  have hi : i ≤ e.o.length := hi
  have hb2 : b = (fineE e && (e.o.take i).all okC) := hb2
  refine zAq tbEp1 [] 0 _ none mixed _ _ _ ?_
  refine ifK (fun h1 => ?_) (fun h1 => ?_)
  ·have h1 : i < e.o.length := by have h1 : ((i : Nat) : Int) < (e.o.length : Int) := of_decide_eq_true h1; omega
   have hw : IntKind.i64.wrap (((sumO (e.o.take i) : Nat) : Int) + IntKind.i64.wrap (4 + (e.o[i].d.size : Int))) = ((sumO (e.o.take (i + 1)) : Nat) : Int) := by have := hsum (i + 1) h1; have e1 := zAg h1; rw [wrapN (x := 4 + (e.o[i].d.size : Int)) (by omega) (by omega), wrapN (by omega) (by omega)]; omega
   have hw2 : IntKind.i64.wrap (IntKind.i64.wrap (((sumO (e.o.take i) : Nat) : Int) + 4) + (e.o[i].d.size : Int)) = ((sumO (e.o.take (i + 1)) : Nat) : Int) := by have := hsum (i + 1) h1; have e1 := zAg h1; have e3 : IntKind.i64.wrap (((sumO (e.o.take i) : Nat) : Int) + 4) = ((sumO (e.o.take i) + 4 : Nat) : Int) := (by rw [wrapN (by omega) (by omega)]; omega); rw [e3, wrapN (by omega) (by omega)]; omega
   have ha := zBm h1
   refine ifK (fun _ => ?_) (fun h2 => absurd h2 (by simp [inI]; omega))
   refine Exists.intro e.o[i].c (Exists.intro e.o[i].d (And.intro (zAe layO h1) ?_))
   refine ifK (fun hb1 => ?_) (fun hb1 => ?_)
   ·have hb1 : b = true := hb1
    rw [hb1] at hb2
    refine ifK (fun h3 => ?_) (fun h3 => ?_)
    ·exact ⟨(i + 1, decide (e.o[i].c ≤ 65535)), ⟨h1, by show _ = (fineE e && (e.o.take (i + 1)).all okC); rw [ha, ← Bool.and_assoc, ← hb2]; unfold okC; rw [show decide (e.o[i].c ≥ 0) = true from h3]; rfl⟩, by show e.o.length - (i + 1) < e.o.length - i; omega, rcq [] ⟨zAa rfl hw, ⟨_, rfl, .bool _⟩, ⟨_, rfl, zAd 8 rfl⟩, ⟨_, rfl, .int _ _⟩, zAa rfl (by rw [wrapN (by omega) (by omega)]; omega), trivial⟩ trivial .nil⟩
    ·exact ⟨(i + 1, false), ⟨h1, by show _ = (fineE e && (e.o.take (i + 1)).all okC); rw [ha, ← Bool.and_assoc, ← hb2]; unfold okC; rw [show decide (e.o[i].c ≥ 0) = false from h3]; rfl⟩, by show e.o.length - (i + 1) < e.o.length - i; omega, rcq [] ⟨zAa rfl hw, ⟨_, rfl, .bool _⟩, ⟨_, rfl, zAd 8 rfl⟩, ⟨_, rfl, .int _ _⟩, zAa rfl (by rw [wrapN (by omega) (by omega)]; omega), trivial⟩ trivial .nil⟩
   ·have hb1 : b = false := hb1
    rw [hb1] at hb2
    exact ⟨(i + 1, false), ⟨h1, by show _ = (fineE e && (e.o.take (i + 1)).all okC); rw [ha, ← Bool.and_assoc, ← hb2]; rfl⟩, by show e.o.length - (i + 1) < e.o.length - i; omega, rcq [] ⟨zAa rfl hw, ⟨_, rfl, .bool _⟩, ⟨_, rfl, zAd 8 rfl⟩, ⟨_, rfl, .int _ _⟩, zAa rfl (by rw [wrapN (by omega) (by omega)]; omega), trivial⟩ trivial .nil⟩
  ·have h1 : ¬ i < e.o.length := by have h1 : ¬ ((i : Nat) : Int) < (e.o.length : Int) := of_decide_eq_false h1; omega
   have hil : i = e.o.length := by omega
   subst hil
   rw [List.take_length] at hb2
   refine And.intro rfl (zAn (rcq [] (d := 6) (d2 := 0) (lv := [(3, .int .i64 ((sumO (e.o.take e.o.length) : Nat) : Int)), (4, .bool b)]) (bs := []) (W := []) (m := 0) (df := []) ⟨⟨_, rfl, .int _ _⟩, ⟨_, rfl, .bool _⟩, trivial⟩ trivial .nil) (fun f => ?_))
   refine ifK (fun hb1 => ?_) (fun hb1 => ?_)
   ·have hb1 : (!b) = true := hb1
    have hb1 : b = false := by simpa using hb1
    rw [show chkE e = 5 by unfold chkE; rw [if_pos (by rw [← hb2, hb1])]]
    exact ⟨_, _, _, rfl⟩
   have hb1 : (!b) = false := hb1
   have hb1 : b = true := by simpa using hb1
   refine ifK (fun h5 => ?_) (fun h5 => ?_)
   ·have h5 : decide (((sumO (e.o.take e.o.length) : Nat) : Int) > 65535) = true := h5
    rw [List.take_length] at h5
    rw [show chkE e = 2 by unfold chkE; rw [if_neg (by rw [← hb2, hb1]; simp), if_pos (by have := of_decide_eq_true h5; omega)]]
    exact ⟨_, _, _, rfl⟩
   ·have h5 : decide (((sumO (e.o.take e.o.length) : Nat) : Int) > 65535) = false := h5
    rw [List.take_length] at h5
    rw [show chkE e = 0 by unfold chkE; rw [if_neg (by rw [← hb2, hb1]; simp), if_neg (by have := of_decide_eq_false h5; omega)]]
    exact ⟨_, _, _, rfl⟩
 have hg : fineE e = decide (e.ver ≤ 255) := by unfold fineE; rw [show decide (e.size ≥ 0) = true from g0, show decide (e.size ≤ 65535) = true from g1, show decide (e.ext ≥ 0) = true from g2, show decide (e.ext ≤ 127) = true from g3, show decide (e.ver ≥ 0) = true from g4]; rfl
 refine zAi (fun (p : Nat × Bool) f => ⟨slots 6 [(3, .int .i64 ((sumO (e.o.take p.1) : Nat) : Int)), (4, .bool p.2), (21, trO e.o), (22, .int .i64 (e.o.length : Nat)), (23, .int .i64 (p.1 : Nat))] f, heap 0 [], 0, [], []⟩) (fun p => e.o.length - p.1) (fun p => p.1 ≤ e.o.length ∧ p.2 = (fineE e && (e.o.take p.1).all okC)) (0, (decide (e.ver ≤ 255))) ⟨Nat.zero_le _, by rw [hg]; simp⟩ (rcq [] ⟨⟨_, rfl, .int _ _⟩, ⟨_, rfl, .bool _⟩, ⟨_, rfl, zAd 8 rfl⟩, ⟨_, rfl, .int _ _⟩, ⟨_, rfl, .int _ _⟩, trivial⟩ trivial .nil) ?_
 rintro ⟨i, b⟩ f ⟨hi, hb2⟩
 have hi : i ≤ e.o.length := hi
 have hb2 : b = (fineE e && (e.o.take i).all okC) := hb2
 refine zAq tbEp1 [] 0 _ none mixed _ _ _ ?_
 refine ifK (fun h1 => ?_) (fun h1 => ?_)
 ·have h1 : i < e.o.length := by have h1 : ((i : Nat) : Int) < (e.o.length : Int) := of_decide_eq_true h1; omega
  have hw : IntKind.i64.wrap (((sumO (e.o.take i) : Nat) : Int) + IntKind.i64.wrap (4 + (e.o[i].d.size : Int))) = ((sumO (e.o.take (i + 1)) : Nat) : Int) := by have := hsum (i + 1) h1; have e1 := zAg h1; rw [wrapN (x := 4 + (e.o[i].d.size : Int)) (by omega) (by omega), wrapN (by omega) (by omega)]; omega
  have hw2 : IntKind.i64.wrap (IntKind.i64.wrap (((sumO (e.o.take i) : Nat) : Int) + 4) + (e.o[i].d.size : Int)) = ((sumO (e.o.take (i + 1)) : Nat) : Int) := by have := hsum (i + 1) h1; have e1 := zAg h1; have e3 : IntKind.i64.wrap (((sumO (e.o.take i) : Nat) : Int) + 4) = ((sumO (e.o.take i) + 4 : Nat) : Int) := (by rw [wrapN (by omega) (by omega)]; omega); rw [e3, wrapN (by omega) (by omega)]; omega
  have ha := zBm h1
  refine ifK (fun _ => ?_) (fun h2 => absurd h2 (by simp [inI]; omega))
  refine Exists.intro e.o[i].c (Exists.intro e.o[i].d (And.intro (zAe layO h1) ?_))
  refine ifK (fun hb1 => ?_) (fun hb1 => ?_)
  ·have hb1 : b = true := hb1
   rw [hb1] at hb2
   refine ifK (fun h3 => ?_) (fun h3 => ?_)
   ·exact ⟨(i + 1, decide (e.o[i].c ≤ 65535)), ⟨h1, by show _ = (fineE e && (e.o.take (i + 1)).all okC); rw [ha, ← Bool.and_assoc, ← hb2]; unfold okC; rw [show decide (e.o[i].c ≥ 0) = true from h3]; rfl⟩, by show e.o.length - (i + 1) < e.o.length - i; omega, rcq [] ⟨zAa rfl hw, ⟨_, rfl, .bool _⟩, ⟨_, rfl, zAd 8 rfl⟩, ⟨_, rfl, .int _ _⟩, zAa rfl (by rw [wrapN (by omega) (by omega)]; omega), trivial⟩ trivial .nil⟩
   ·exact ⟨(i + 1, false), ⟨h1, by show _ = (fineE e && (e.o.take (i + 1)).all okC); rw [ha, ← Bool.and_assoc, ← hb2]; unfold okC; rw [show decide (e.o[i].c ≥ 0) = false from h3]; rfl⟩, by show e.o.length - (i + 1) < e.o.length - i; omega, rcq [] ⟨zAa rfl hw, ⟨_, rfl, .bool _⟩, ⟨_, rfl, zAd 8 rfl⟩, ⟨_, rfl, .int _ _⟩, zAa rfl (by rw [wrapN (by omega) (by omega)]; omega), trivial⟩ trivial .nil⟩
  ·have hb1 : b = false := hb1
   rw [hb1] at hb2
   exact ⟨(i + 1, false), ⟨h1, by show _ = (fineE e && (e.o.take (i + 1)).all okC); rw [ha, ← Bool.and_assoc, ← hb2]; rfl⟩, by show e.o.length - (i + 1) < e.o.length - i; omega, rcq [] ⟨zAa rfl hw, ⟨_, rfl, .bool _⟩, ⟨_, rfl, zAd 8 rfl⟩, ⟨_, rfl, .int _ _⟩, zAa rfl (by rw [wrapN (by omega) (by omega)]; omega), trivial⟩ trivial .nil⟩
 ·have h1 : ¬ i < e.o.length := by have h1 : ¬ ((i : Nat) : Int) < (e.o.length : Int) := of_decide_eq_false h1; omega
  have hil : i = e.o.length := by omega
  subst hil
  rw [List.take_length] at hb2
  refine And.intro rfl (zAn (rcq [] (d := 6) (d2 := 0) (lv := [(3, .int .i64 ((sumO (e.o.take e.o.length) : Nat) : Int)), (4, .bool b)]) (bs := []) (W := []) (m := 0) (df := []) ⟨⟨_, rfl, .int _ _⟩, ⟨_, rfl, .bool _⟩, trivial⟩ trivial .nil) (fun f => ?_))
  refine ifK (fun hb1 => ?_) (fun hb1 => ?_)
  ·have hb1 : (!b) = true := hb1
   have hb1 : b = false := by simpa using hb1
   rw [show chkE e = 5 by unfold chkE; rw [if_pos (by rw [← hb2, hb1])]]
   exact ⟨_, _, _, rfl⟩
  have hb1 : (!b) = false := hb1
  have hb1 : b = true := by simpa using hb1
  refine ifK (fun h5 => ?_) (fun h5 => ?_)
  ·have h5 : decide (((sumO (e.o.take e.o.length) : Nat) : Int) > 65535) = true := h5
   rw [List.take_length] at h5
   rw [show chkE e = 2 by unfold chkE; rw [if_neg (by rw [← hb2, hb1]; simp), if_pos (by have := of_decide_eq_true h5; omega)]]
   exact ⟨_, _, _, rfl⟩
  ·have h5 : decide (((sumO (e.o.take e.o.length) : Nat) : Int) > 65535) = false := h5
   rw [List.take_length] at h5
   rw [show chkE e = 0 by unfold chkE; rw [if_neg (by rw [← hb2, hb1]; simp), if_neg (by have := of_decide_eq_false h5; omega)]]
   exact ⟨_, _, _, rfl⟩
theorem rchk_tr (e : EdX) (hs : e.small) : ∃ r, FnS Try.prog 0 16 [e.v] .e 0 r ∧ ∃ H m wr, r = .ret (.int .i64 (chkE e)) H m wr := by
 obtain ⟨hl, hb⟩ := hs
 have hsum : ∀ i, i ≤ e.o.length → sumO (e.o.take i) ≤ 1000004000 := fun i hi => Nat.le_trans (zOx fun o ho => hb o (List.mem_of_mem_take ho)) (by rw [List.length_take, Nat.min_eq_left hi]; omega)
 refine zCe mixed tbEp2 [] Try.func16 (c := bodyOf Try.f16) (by kernel_rfl) ?_
 refine ifK (fun g0 => ?_) (fun g0 => ?_)
 rotate_left
 ·have hg : fineE e = false := by have g : decide (e.size ≥ 0) = false := g0; unfold fineE; rw [g]; simp
  refine zAi (fun (p : Nat × Bool) f => ⟨slots 6 [(1, .pointer (some ⟨0, 0, none⟩)), (3, .bool p.2), (4, .int .i64 ((sumO (e.o.take p.1) : Nat) : Int)), (5, .int .i64 (p.1 : Nat))] f, heap 1 [(0, .cells e.cs 28)], 1, [], []⟩) (fun p => e.o.length - p.1) (fun p => p.1 ≤ e.o.length ∧ p.2 = (fineE e && (e.o.take p.1).all okC)) (0, false) ⟨Nat.zero_le _, by rw [hg]; simp⟩ (rcq [0] ⟨⟨_, rfl, .ptr _ _ _ rfl⟩, ⟨_, rfl, .bool _⟩, ⟨_, rfl, .int _ _⟩, ⟨_, rfl, .int _ _⟩, trivial⟩ ⟨⟨by decide, _, rfl, RO.clos rfl⟩, trivial⟩ .nil) ?_
  rintro ⟨i, b⟩ f ⟨hi, hb2⟩
  have hi : i ≤ e.o.length := hi
  have hb2 : b = (fineE e && (e.o.take i).all okC) := hb2
  refine zAq tbEp2 [] 0 _ none mixed _ _ _ ?_
  refine ifK (fun h1 => ?_) (fun h1 => ?_)
  ·have h1 : i < e.o.length := by have h1 : ((i : Nat) : Int) < (e.o.length : Int) := of_decide_eq_true h1; omega
   have hw : IntKind.i64.wrap (((sumO (e.o.take i) : Nat) : Int) + IntKind.i64.wrap (4 + (e.o[i].d.size : Int))) = ((sumO (e.o.take (i + 1)) : Nat) : Int) := by have := hsum (i + 1) h1; have e1 := zAg h1; rw [wrapN (x := 4 + (e.o[i].d.size : Int)) (by omega) (by omega), wrapN (by omega) (by omega)]; omega
   have hw2 : IntKind.i64.wrap (IntKind.i64.wrap (((sumO (e.o.take i) : Nat) : Int) + 4) + (e.o[i].d.size : Int)) = ((sumO (e.o.take (i + 1)) : Nat) : Int) := by have := hsum (i + 1) h1; have e1 := zAg h1; have e3 : IntKind.i64.wrap (((sumO (e.o.take i) : Nat) : Int) + 4) = ((sumO (e.o.take i) + 4 : Nat) : Int) := (by rw [wrapN (by omega) (by omega)]; omega); rw [e3, wrapN (by omega) (by omega)]; omega
   have ha := zBm h1
   refine ifK (fun hb1 => ?_) (fun hb1 => ?_)
   ·have hb1 : b = true := hb1
    rw [hb1] at hb2
    refine ifK (fun _ => ?_) (fun h2 => absurd h2 (by simp [inI]; omega))
    refine Exists.intro e.o[i].c (Exists.intro e.o[i].d (And.intro (zAe layO h1) ?_))
    refine ifK (fun h3 => ?_) (fun h3 => ?_)
    ·refine ifK (fun _ => ?_) (fun h2 => absurd h2 (by simp [inI]; omega))
     refine Exists.intro e.o[i].c (Exists.intro e.o[i].d (And.intro (zAe layO h1) ?_))
     exact ⟨(i + 1, decide (e.o[i].c ≤ 65535)), ⟨h1, by show _ = (fineE e && (e.o.take (i + 1)).all okC); rw [ha, ← Bool.and_assoc, ← hb2]; unfold okC; rw [show decide (e.o[i].c ≥ 0) = true from h3]; rfl⟩, by show e.o.length - (i + 1) < e.o.length - i; omega, rcq [0] ⟨⟨_, rfl, .ptr _ _ _ rfl⟩, ⟨_, rfl, .bool _⟩, zAa rfl hw2, zAa rfl (by rw [wrapN (by omega) (by omega)]; omega), trivial⟩ ⟨⟨by decide, _, rfl, RO.clos rfl⟩, trivial⟩ .nil⟩
    ·refine ifK (fun _ => ?_) (fun h2 => absurd h2 (by simp [inI]; omega))
     refine Exists.intro e.o[i].c (Exists.intro e.o[i].d (And.intro (zAe layO h1) ?_))
     exact ⟨(i + 1, false), ⟨h1, by show _ = (fineE e && (e.o.take (i + 1)).all okC); rw [ha, ← Bool.and_assoc, ← hb2]; unfold okC; rw [show decide (e.o[i].c ≥ 0) = false from h3]; rfl⟩, by show e.o.length - (i + 1) < e.o.length - i; omega, rcq [0] ⟨⟨_, rfl, .ptr _ _ _ rfl⟩, ⟨_, rfl, .bool _⟩, zAa rfl hw2, zAa rfl (by rw [wrapN (by omega) (by omega)]; omega), trivial⟩ ⟨⟨by decide, _, rfl, RO.clos rfl⟩, trivial⟩ .nil⟩
   ·have hb1 : b = false := hb1
    rw [hb1] at hb2
    refine ifK (fun _ => ?_) (fun h2 => absurd h2 (by simp [inI]; omega))
    refine Exists.intro e.o[i].c (Exists.intro e.o[i].d (And.intro (zAe layO h1) ?_))
    exact ⟨(i + 1, false), ⟨h1, by show _ = (fineE e && (e.o.take (i + 1)).all okC); rw [ha, ← Bool.and_assoc, ← hb2]; rfl⟩, by show e.o.length - (i + 1) < e.o.length - i; omega, rcq [0] ⟨⟨_, rfl, .ptr _ _ _ rfl⟩, ⟨_, rfl, .bool _⟩, zAa rfl hw2, zAa rfl (by rw [wrapN (by omega) (by omega)]; omega), trivial⟩ ⟨⟨by decide, _, rfl, RO.clos rfl⟩, trivial⟩ .nil⟩
  ·have h1 : ¬ i < e.o.length := by have h1 : ¬ ((i : Nat) : Int) < (e.o.length : Int) := of_decide_eq_false h1; omega
   have hil : i = e.o.length := by omega
   subst hil
   rw [List.take_length] at hb2
   refine And.intro rfl (zAn (rcq [] (d := 6) (d2 := 0) (lv := [(3, .bool b), (4, .int .i64 ((sumO (e.o.take e.o.length) : Nat) : Int))]) (bs := []) (W := []) (m := 0) (df := []) ⟨⟨_, rfl, .bool _⟩, ⟨_, rfl, .int _ _⟩, trivial⟩ trivial .nil) (fun f => ?_))
   refine ifK (fun hb1 => ?_) (fun hb1 => ?_)
   ·have hb1 : (!b) = true := hb1
    have hb1 : b = false := by simpa using hb1
    rw [show chkE e = 5 by unfold chkE; rw [if_pos (by rw [← hb2, hb1])]]
    exact ⟨_, _, _, rfl⟩
   have hb1 : (!b) = false := hb1
   have hb1 : b = true := by simpa using hb1
   refine ifK (fun h5 => ?_) (fun h5 => ?_)
   ·have h5 : decide (((sumO (e.o.take e.o.length) : Nat) : Int) > 65535) = true := h5
    rw [List.take_length] at h5
    rw [show chkE e = 2 by unfold chkE; rw [if_neg (by rw [← hb2, hb1]; simp), if_pos (by have := of_decide_eq_true h5; omega)]]
    exact ⟨_, _, _, rfl⟩
   ·have h5 : decide (((sumO (e.o.take e.o.length) : Nat) : Int) > 65535) = false := h5
    rw [List.take_length] at h5
    rw [show chkE e = 0 by unfold chkE; rw [if_neg (by rw [← hb2, hb1]; simp), if_neg (by have := of_decide_eq_false h5; omega)]]
    exact ⟨_, _, _, rfl⟩
 refine ifK (fun g1 => ?_) (fun g1 => ?_)
 rotate_left
 ·have hg : fineE e = false := by have g : decide (e.size ≤ 65535) = false := g1; unfold fineE; rw [g]; simp
  refine zAi (fun (p : Nat × Bool) f => ⟨slots 6 [(1, .pointer (some ⟨0, 0, none⟩)), (3, .bool p.2), (4, .int .i64 ((sumO (e.o.take p.1) : Nat) : Int)), (5, .int .i64 (p.1 : Nat))] f, heap 1 [(0, .cells e.cs 28)], 1, [], []⟩) (fun p => e.o.length - p.1) (fun p => p.1 ≤ e.o.length ∧ p.2 = (fineE e && (e.o.take p.1).all okC)) (0, false) ⟨Nat.zero_le _, by rw [hg]; simp⟩ (rcq [0] ⟨⟨_, rfl, .ptr _ _ _ rfl⟩, ⟨_, rfl, .bool _⟩, ⟨_, rfl, .int _ _⟩, ⟨_, rfl, .int _ _⟩, trivial⟩ ⟨⟨by decide, _, rfl, RO.clos rfl⟩, trivial⟩ .nil) ?_
  rintro ⟨i, b⟩ f ⟨hi, hb2⟩
  have hi : i ≤ e.o.length := hi
  have hb2 : b = (fineE e && (e.o.take i).all okC) := hb2
  refine zAq tbEp2 [] 0 _ none mixed _ _ _ ?_
  refine ifK (fun h1 => ?_) (fun h1 => ?_)
  ·have h1 : i < e.o.length := by have h1 : ((i : Nat) : Int) < (e.o.length : Int) := of_decide_eq_true h1; omega
   have hw : IntKind.i64.wrap (((sumO (e.o.take i) : Nat) : Int) + IntKind.i64.wrap (4 + (e.o[i].d.size : Int))) = ((sumO (e.o.take (i + 1)) : Nat) : Int) := by have := hsum (i + 1) h1; have e1 := zAg h1; rw [wrapN (x := 4 + (e.o[i].d.size : Int)) (by omega) (by omega), wrapN (by omega) (by omega)]; omega
   have hw2 : IntKind.i64.wrap (IntKind.i64.wrap (((sumO (e.o.take i) : Nat) : Int) + 4) + (e.o[i].d.size : Int)) = ((sumO (e.o.take (i + 1)) : Nat) : Int) := by have := hsum (i + 1) h1; have e1 := zAg h1; have e3 : IntKind.i64.wrap (((sumO (e.o.take i) : Nat) : Int) + 4) = ((sumO (e.o.take i) + 4 : Nat) : Int) := (by rw [wrapN (by omega) (by omega)]; omega); rw [e3, wrapN (by omega) (by omega)]; omega
   have ha := zBm h1
   refine ifK (fun hb1 => ?_) (fun hb1 => ?_)
   ·have hb1 : b = true := hb1
    rw [hb1] at hb2
    refine ifK (fun _ => ?_) (fun h2 => absurd h2 (by simp [inI]; omega))
    refine Exists.intro e.o[i].c (Exists.intro e.o[i].d (And.intro (zAe layO h1) ?_))
    refine ifK (fun h3 => ?_) (fun h3 => ?_)
    ·refine ifK (fun _ => ?_) (fun h2 => absurd h2 (by simp [inI]; omega))
     refine Exists.intro e.o[i].c (Exists.intro e.o[i].d (And.intro (zAe layO h1) ?_))
     exact ⟨(i + 1, decide (e.o[i].c ≤ 65535)), ⟨h1, by show _ = (fineE e && (e.o.take (i + 1)).all okC); rw [ha, ← Bool.and_assoc, ← hb2]; unfold okC; rw [show decide (e.o[i].c ≥ 0) = true from h3]; rfl⟩, by show e.o.length - (i + 1) < e.o.length - i; omega, rcq [0] ⟨⟨_, rfl, .ptr _ _ _ rfl⟩, ⟨_, rfl, .bool _⟩, zAa rfl hw2, zAa rfl (by rw [wrapN (by omega) (by omega)]; omega), trivial⟩ ⟨⟨by decide, _, rfl, RO.clos rfl⟩, trivial⟩ .nil⟩
    ·refine ifK (fun _ => ?_) (fun h2 => absurd h2 (by simp [inI]; omega))
     refine Exists.intro e.o[i].c (Exists.intro e.o[i].d (And.intro (zAe layO h1) ?_))
     exact ⟨(i + 1, false), ⟨h1, by show _ = (fineE e && (e.o.take (i + 1)).all okC); rw [ha, ← Bool.and_assoc, ← hb2]; unfold okC; rw [show decide (e.o[i].c ≥ 0) = false from h3]; rfl⟩, by show e.o.length - (i + 1) < e.o.length - i; omega, rcq [0] ⟨⟨_, rfl, .ptr _ _ _ rfl⟩, ⟨_, rfl, .bool _⟩, zAa rfl hw2, zAa rfl (by rw [wrapN (by omega) (by omega)]; omega), trivial⟩ ⟨⟨by decide, _, rfl, RO.clos rfl⟩, trivial⟩ .nil⟩
   ·have hb1 : b = false := hb1
    rw [hb1] at hb2
    refine ifK (fun _ => ?_) (fun h2 => absurd h2 (by simp [inI]; omega))
    refine Exists.intro e.o[i].c (Exists.intro e.o[i].d (And.intro (zAe layO h1) ?_))
    exact ⟨(i + 1, false), ⟨h1, by show _ = (fineE e && (e.o.take (i + 1)).all okC); rw [ha, ← Bool.and_assoc, ← hb2]; rfl⟩, by show e.o.length - (i + 1) < e.o.length - i; omega, rcq [0] ⟨⟨_, rfl, .ptr _ _ _ rfl⟩, ⟨_, rfl, .bool _⟩, zAa rfl hw2, zAa rfl (by rw [wrapN (by omega) (by omega)]; omega), trivial⟩ ⟨⟨by decide, _, rfl, RO.clos rfl⟩, trivial⟩ .nil⟩
  ·have h1 : ¬ i < e.o.length := by have h1 : ¬ ((i : Nat) : Int) < (e.o.length : Int) := of_decide_eq_false h1; omega
   have hil : i = e.o.length := by omega
   subst hil
   rw [List.take_length] at hb2
   refine And.intro rfl (zAn (rcq [] (d := 6) (d2 := 0) (lv := [(3, .bool b), (4, .int .i64 ((sumO (e.o.take e.o.length) : Nat) : Int))]) (bs := []) (W := []) (m := 0) (df := []) ⟨⟨_, rfl, .bool _⟩, ⟨_, rfl, .int _ _⟩, trivial⟩ trivial .nil) (fun f => ?_))
   refine ifK (fun hb1 => ?_) (fun hb1 => ?_)
   ·have hb1 : (!b) = true := hb1
    have hb1 : b = false := by simpa using hb1
    rw [show chkE e = 5 by unfold chkE; rw [if_pos (by rw [← hb2, hb1])]]
    exact ⟨_, _, _, rfl⟩
   have hb1 : (!b) = false := hb1
   have hb1 : b = true := by simpa using hb1
   refine ifK (fun h5 => ?_) (fun h5 => ?_)
   ·have h5 : decide (((sumO (e.o.take e.o.length) : Nat) : Int) > 65535) = true := h5
    rw [List.take_length] at h5
    rw [show chkE e = 2 by unfold chkE; rw [if_neg (by rw [← hb2, hb1]; simp), if_pos (by have := of_decide_eq_true h5; omega)]]
    exact ⟨_, _, _, rfl⟩
   ·have h5 : decide (((sumO (e.o.take e.o.length) : Nat) : Int) > 65535) = false := h5
    rw [List.take_length] at h5
    rw [show chkE e = 0 by unfold chkE; rw [if_neg (by rw [← hb2, hb1]; simp), if_neg (by have := of_decide_eq_false h5; omega)]]
    exact ⟨_, _, _, rfl⟩
 refine ifK (fun g2 => ?_) (fun g2 => ?_)
 rotate_left
 ·have hg : fineE e = false := by have g : decide (e.ext ≥ 0) = false := g2; unfold fineE; rw [g]; simp
  refine zAi (fun (p : Nat × Bool) f => ⟨slots 6 [(1, .pointer (some ⟨0, 0, none⟩)), (3, .bool p.2), (4, .int .i64 ((sumO (e.o.take p.1) : Nat) : Int)), (5, .int .i64 (p.1 : Nat))] f, heap 1 [(0, .cells e.cs 28)], 1, [], []⟩) (fun p => e.o.length - p.1) (fun p => p.1 ≤ e.o.length ∧ p.2 = (fineE e && (e.o.take p.1).all okC)) (0, false) ⟨Nat.zero_le _, by rw [hg]; simp⟩ (rcq [0] ⟨⟨_, rfl, .ptr _ _ _ rfl⟩, ⟨_, rfl, .bool _⟩, ⟨_, rfl, .int _ _⟩, ⟨_, rfl, .int _ _⟩, trivial⟩ ⟨⟨by decide, _, rfl, RO.clos rfl⟩, trivial⟩ .nil) ?_
  rintro ⟨i, b⟩ f ⟨hi, hb2⟩
  have hi : i ≤ e.o.length := hi
  have hb2 : b = (fineE e && (e.o.take i).all okC) := hb2
  refine zAq tbEp2 [] 0 _ none mixed _ _ _ ?_
  refine ifK (fun h1 => ?_) (fun h1 => ?_)
  ·have h1 : i < e.o.length := by have h1 : ((i : Nat) : Int) < (e.o.length : Int) := of_decide_eq_true h1; omega
   have hw : IntKind.i64.wrap (((sumO (e.o.take i) : Nat) : Int) + IntKind.i64.wrap (4 + (e.o[i].d.size : Int))) = ((sumO (e.o.take (i + 1)) : Nat) : Int) := by have := hsum (i + 1) h1; have e1 := zAg h1; rw [wrapN (x := 4 + (e.o[i].d.size : Int)) (by omega) (by omega), wrapN (by omega) (by omega)]; omega
   have hw2 : IntKind.i64.wrap (IntKind.i64.wrap (((sumO (e.o.take i) : Nat) : Int) + 4) + (e.o[i].d.size : Int)) = ((sumO (e.o.take (i + 1)) : Nat) : Int) := by have := hsum (i + 1) h1; have e1 := zAg h1; have e3 : IntKind.i64.wrap (((sumO (e.o.take i) : Nat) : Int) + 4) = ((sumO (e.o.take i) + 4 : Nat) : Int) := (by rw [wrapN (by omega) (by omega)]; omega); rw [e3, wrapN (by omega) (by omega)]; omega
   have ha := zBm h1
   refine ifK (fun hb1 => ?_) (fun hb1 => ?_)
   ·have hb1 : b = true := hb1
    rw [hb1] at hb2
    refine ifK (fun _ => ?_) (fun h2 => absurd h2 (by simp [inI]; omega))
    refine Exists.intro e.o[i].c (Exists.intro e.o[i].d (And.intro (zAe layO h1) ?_))
    refine ifK (fun h3 => ?_) (fun h3 => ?_)
    ·refine ifK (fun _ => ?_) (fun h2 => absurd h2 (by simp [inI]; omega))
     refine Exists.intro e.o[i].c (Exists.intro e.o[i].d (And.intro (zAe layO h1) ?_))
     exact ⟨(i + 1, decide (e.o[i].c ≤ 65535)), ⟨h1, by show _ = (fineE e && (e.o.take (i + 1)).all okC); rw [ha, ← Bool.and_assoc, ← hb2]; unfold okC; rw [show decide (e.o[i].c ≥ 0) = true from h3]; rfl⟩, by show e.o.length - (i + 1) < e.o.length - i; omega, rcq [0] ⟨⟨_, rfl, .ptr _ _ _ rfl⟩, ⟨_, rfl, .bool _⟩, zAa rfl hw2, zAa rfl (by rw [wrapN (by omega) (by omega)]; omega), trivial⟩ ⟨⟨by decide, _, rfl, RO.clos rfl⟩, trivial⟩ .nil⟩
    ·refine ifK (fun _ => ?_) (fun h2 => absurd h2 (by simp [inI]; omega))
     refine Exists.intro e.o[i].c (Exists.intro e.o[i].d (And.intro (zAe layO h1) ?_))
     exact ⟨(i + 1, false), ⟨h1, by show _ = (fineE e && (e.o.take (i + 1)).all okC); rw [ha, ← Bool.and_assoc, ← hb2]; unfold okC; rw [show decide (e.o[i].c ≥ 0) = false from h3]; rfl⟩, by show e.o.length - (i + 1) < e.o.length - i; omega, rcq [0] ⟨⟨_, rfl, .ptr _ _ _ rfl⟩, ⟨_, rfl, .bool _⟩, zAa rfl hw2, zAa rfl (by rw [wrapN (by omega) (by omega)]; omega), trivial⟩ ⟨⟨by decide, _, rfl, RO.clos rfl⟩, trivial⟩ .nil⟩
   ·have hb1 : b = false := hb1
    rw [hb1] at hb2
    refine ifK (fun _ => ?_) (fun h2 => absurd h2 (by simp [inI]; omega))
    refine Exists.intro e.o[i].c (Exists.intro e.o[i].d (And.intro (zAe layO h1) ?_))
    exact ⟨(i + 1, false), ⟨h1, by show _ = (fineE e && (e.o.take (i + 1)).all okC); rw [ha, ← Bool.and_assoc, ← hb2]; rfl⟩, by show e.o.length - (i + 1) < e.o.length - i; omega, rcq [0] ⟨⟨_, rfl, .ptr _ _ _ rfl⟩, ⟨_, rfl, .bool _⟩, zAa rfl hw2, zAa rfl (by rw [wrapN (by omega) (by omega)]; omega), trivial⟩ ⟨⟨by decide, _, rfl, RO.clos rfl⟩, trivial⟩ .nil⟩
  ·have h1 : ¬ i < e.o.length := by have h1 : ¬ ((i : Nat) : Int) < (e.o.length : Int) := of_decide_eq_false h1; omega
   have hil : i = e.o.length := by omega
   subst hil
   rw [List.take_length] at hb2
   refine And.intro rfl (zAn (rcq [] (d := 6) (d2 := 0) (lv := [(3, .bool b), (4, .int .i64 ((sumO (e.o.take e.o.length) : Nat) : Int))]) (bs := []) (W := []) (m := 0) (df := []) ⟨⟨_, rfl, .bool _⟩, ⟨_, rfl, .int _ _⟩, trivial⟩ trivial .nil) (fun f => ?_))
   refine ifK (fun hb1 => ?_) (fun hb1 => ?_)
   ·have hb1 : (!b) = true := hb1
    have hb1 : b = false := by simpa using hb1
    rw [show chkE e = 5 by unfold chkE; rw [if_pos (by rw [← hb2, hb1])]]
    exact ⟨_, _, _, rfl⟩
   have hb1 : (!b) = false := hb1
   have hb1 : b = true := by simpa using hb1
   refine ifK (fun h5 => ?_) (fun h5 => ?_)
   ·have h5 : decide (((sumO (e.o.take e.o.length) : Nat) : Int) > 65535) = true := h5
    rw [List.take_length] at h5
    rw [show chkE e = 2 by unfold chkE; rw [if_neg (by rw [← hb2, hb1]; simp), if_pos (by have := of_decide_eq_true h5; omega)]]
    exact ⟨_, _, _, rfl⟩
   ·have h5 : decide (((sumO (e.o.take e.o.length) : Nat) : Int) > 65535) = false := h5
    rw [List.take_length] at h5
    rw [show chkE e = 0 by unfold chkE; rw [if_neg (by rw [← hb2, hb1]; simp), if_neg (by have := of_decide_eq_false h5; omega)]]
    exact ⟨_, _, _, rfl⟩
 refine ifK (fun g3 => ?_) (fun g3 => ?_)
 rotate_left
 ·have hg : fineE e = false := by have g : decide (e.ext ≤ 127) = false := g3; unfold fineE; rw [g]; simp
  refine zAi (fun (p : Nat × Bool) f => ⟨slots 6 [(1, .pointer (some ⟨0, 0, none⟩)), (3, .bool p.2), (4, .int .i64 ((sumO (e.o.take p.1) : Nat) : Int)), (5, .int .i64 (p.1 : Nat))] f, heap 1 [(0, .cells e.cs 28)], 1, [], []⟩) (fun p => e.o.length - p.1) (fun p => p.1 ≤ e.o.length ∧ p.2 = (fineE e && (e.o.take p.1).all okC)) (0, false) ⟨Nat.zero_le _, by rw [hg]; simp⟩ (rcq [0] ⟨⟨_, rfl, .ptr _ _ _ rfl⟩, ⟨_, rfl, .bool _⟩, ⟨_, rfl, .int _ _⟩, ⟨_, rfl, .int _ _⟩, trivial⟩ ⟨⟨by decide, _, rfl, RO.clos rfl⟩, trivial⟩ .nil) ?_
  rintro ⟨i, b⟩ f ⟨hi, hb2⟩
  have hi : i ≤ e.o.length := hi
  have hb2 : b = (fineE e && (e.o.take i).all okC) := hb2
  refine zAq tbEp2 [] 0 _ none mixed _ _ _ ?_
  refine ifK (fun h1 => ?_) (fun h1 => ?_)
  ·have h1 : i < e.o.length := by have h1 : ((i : Nat) : Int) < (e.o.length : Int) := of_decide_eq_true h1; omega
   have hw : IntKind.i64.wrap (((sumO (e.o.take i) : Nat) : Int) + IntKind.i64.wrap (4 + (e.o[i].d.size : Int))) = ((sumO (e.o.take (i + 1)) : Nat) : Int) := by have := hsum (i + 1) h1; have e1 := zAg h1; rw [wrapN (x := 4 + (e.o[i].d.size : Int)) (by omega) (by omega), wrapN (by omega) (by omega)]; omega
   have hw2 : IntKind.i64.wrap (IntKind.i64.wrap (((sumO (e.o.take i) : Nat) : Int) + 4) + (e.o[i].d.size : Int)) = ((sumO (e.o.take (i + 1)) : Nat) : Int) := by have := hsum (i + 1) h1; have e1 := zAg h1; have e3 : IntKind.i64.wrap (((sumO (e.o.take i) : Nat) : Int) + 4) = ((sumO (e.o.take i) + 4 : Nat) : Int) := (by rw [wrapN (by omega) (by omega)]; omega); rw [e3, wrapN (by omega) (by omega)]; omega
   have ha := zBm h1
   refine ifK (fun hb1 => ?_) (fun hb1 => ?_)
   ·have hb1 : b = true := hb1
    rw [hb1] at hb2
    refine ifK (fun _ => ?_) (fun h2 => absurd h2 (by simp [inI]; omega))
    refine Exists.intro e.o[i].c (Exists.intro e.o[i].d (And.intro (zAe layO h1) ?_))
    refine ifK (fun h3 => ?_) (fun h3 => ?_)
    ·refine ifK (fun _ => ?_) (fun h2 => absurd h2 (by simp [inI]; omega))
     refine Exists.intro e.o[i].c (Exists.intro e.o[i].d (And.intro (zAe layO h1) ?_))
     exact ⟨(i + 1, decide (e.o[i].c ≤ 65535)), ⟨h1, by show _ = (fineE e && (e.o.take (i + 1)).all okC); rw [ha, ← Bool.and_assoc, ← hb2]; unfold okC; rw [show decide (e.o[i].c ≥ 0) = true from h3]; rfl⟩, by show e.o.length - (i + 1) < e.o.length - i; omega, rcq [0] ⟨⟨_, rfl, .ptr _ _ _ rfl⟩, ⟨_, rfl, .bool _⟩, zAa rfl hw2, zAa rfl (by rw [wrapN (by omega) (by omega)]; omega), trivial⟩ ⟨⟨by decide, _, rfl, RO.clos rfl⟩, trivial⟩ .nil⟩
    ·refine ifK (fun _ => ?_) (fun h2 => absurd h2 (by simp [inI]; omega))
     refine Exists.intro e.o[i].c (Exists.intro e.o[i].d (And.intro (zAe layO h1) ?_))
     exact ⟨(i + 1, false), ⟨h1, by show _ = (fineE e && (e.o.take (i + 1)).all okC); rw [ha, ← Bool.and_assoc, ← hb2]; unfold okC; rw [show decide (e.o[i].c ≥ 0) = false from h3]; rfl⟩, by show e.o.length - (i + 1) < e.o.length - i; omega, rcq [0] ⟨⟨_, rfl, .ptr _ _ _ rfl⟩, ⟨_, rfl, .bool _⟩, zAa rfl hw2, zAa rfl (by rw [wrapN (by omega) (by omega)]; omega), trivial⟩ ⟨⟨by decide, _, rfl, RO.clos rfl⟩, trivial⟩ .nil⟩
   ·have hb1 : b = false := hb1
    rw [hb1] at hb2
    refine ifK (fun _ => ?_) (fun h2 => absurd h2 (by simp [inI]; omega))
    refine Exists.intro e.o[i].c (Exists.intro e.o[i].d (And.intro (zAe layO h1) ?_))
    exact ⟨(i + 1, false), ⟨h1, by show _ = (fineE e && (e.o.take (i + 1)).all okC); rw [ha, ← Bool.and_assoc, ← hb2]; rfl⟩, by show e.o.length - (i + 1) < e.o.length - i; omega, rcq [0] ⟨⟨_, rfl, .ptr _ _ _ rfl⟩, ⟨_, rfl, .bool _⟩, zAa rfl hw2, zAa rfl (by rw [wrapN (by omega) (by omega)]; omega), trivial⟩ ⟨⟨by decide, _, rfl, RO.clos rfl⟩, trivial⟩ .nil⟩
  ·have h1 : ¬ i < e.o.length := by have h1 : ¬ ((i : Nat) : Int) < (e.o.length : Int) := of_decide_eq_false h1; omega
   have hil : i = e.o.length := by omega
   subst hil
   rw [List.take_length] at hb2
   refine And.intro rfl (zAn (rcq [] (d := 6) (d2 := 0) (lv := [(3, .bool b), (4, .int .i64 ((sumO (e.o.take e.o.length) : Nat) : Int))]) (bs := []) (W := []) (m := 0) (df := []) ⟨⟨_, rfl, .bool _⟩, ⟨_, rfl, .int _ _⟩, trivial⟩ trivial .nil) (fun f => ?_))
   refine ifK (fun hb1 => ?_) (fun hb1 => ?_)
   ·have hb1 : (!b) = true := hb1
    have hb1 : b = false := by simpa using hb1
    rw [show chkE e = 5 by unfold chkE; rw [if_pos (by rw [← hb2, hb1])]]
    exact ⟨_, _, _, rfl⟩
   have hb1 : (!b) = false := hb1
   have hb1 : b = true := by simpa using hb1
   refine ifK (fun h5 => ?_) (fun h5 => ?_)
   ·have h5 : decide (((sumO (e.o.take e.o.length) : Nat) : Int) > 65535) = true := h5
    rw [List.take_length] at h5
    rw [show chkE e = 2 by unfold chkE; rw [if_neg (by rw [← hb2, hb1]; simp), if_pos (by have := of_decide_eq_true h5; omega)]]
    exact ⟨_, _, _, rfl⟩
   ·have h5 : decide (((sumO (e.o.take e.o.length) : Nat) : Int) > 65535) = false := h5
    rw [List.take_length] at h5
    rw [show chkE e = 0 by unfold chkE; rw [if_neg (by rw [← hb2, hb1]; simp), if_neg (by have := of_decide_eq_false h5; omega)]]
    exact ⟨_, _, _, rfl⟩
 refine ifK (fun g4 => ?_) (fun g4 => ?_)
 rotate_left
 ·have hg : fineE e = false := by have g : decide (e.ver ≥ 0) = false := g4; unfold fineE; rw [g]; simp
  refine zAi (fun (p : Nat × Bool) f => ⟨slots 6 [(1, .pointer (some ⟨0, 0, none⟩)), (3, .bool p.2), (4, .int .i64 ((sumO (e.o.take p.1) : Nat) : Int)), (5, .int .i64 (p.1 : Nat))] f, heap 1 [(0, .cells e.cs 28)], 1, [], []⟩) (fun p => e.o.length - p.1) (fun p => p.1 ≤ e.o.length ∧ p.2 = (fineE e && (e.o.take p.1).all okC)) (0, false) ⟨Nat.zero_le _, by rw [hg]; simp⟩ (rcq [0] ⟨⟨_, rfl, .ptr _ _ _ rfl⟩, ⟨_, rfl, .bool _⟩, ⟨_, rfl, .int _ _⟩, ⟨_, rfl, .int _ _⟩, trivial⟩ ⟨⟨by decide, _, rfl, RO.clos rfl⟩, trivial⟩ .nil) ?_
  rintro ⟨i, b⟩ f ⟨hi, hb2⟩
  have hi : i ≤ e.o.length := hi
  have hb2 : b = (fineE e && (e.o.take i).all okC) := hb2
  refine zAq tbEp2 [] 0 _ none mixed _ _ _ ?_
  refine ifK (fun h1 => ?_) (fun h1 => ?_)
  ·have h1 : i < e.o.length := by have h1 : ((i : Nat) : Int) < (e.o.length : Int) := of_decide_eq_true h1; omega
   have hw : IntKind.i64.wrap (((sumO (e.o.take i) : Nat) : Int) + IntKind.i64.wrap (4 + (e.o[i].d.size : Int))) = ((sumO (e.o.take (i + 1)) : Nat) : Int) := by have := hsum (i + 1) h1; have e1 := zAg h1; rw [wrapN (x := 4 + (e.o[i].d.size : Int)) (by omega) (by omega), wrapN (by omega) (by omega)]; omega
   have hw2 : IntKind.i64.wrap (IntKind.i64.wrap (((sumO (e.o.take i) : Nat) : Int) + 4) + (e.o[i].d.size : Int)) = ((sumO (e.o.take (i + 1)) : Nat) : Int) := by have := hsum (i + 1) h1; have e1 := zAg h1; have e3 : IntKind.i64.wrap (((sumO (e.o.take i) : Nat) : Int) + 4) = ((sumO (e.o.take i) + 4 : Nat) : Int) := (by rw [wrapN (by omega) (by omega)]; omega); rw [e3, wrapN (by omega) (by omega)]; omega
   have ha := zBm h1
   refine ifK (fun hb1 => ?_) (fun hb1 => ?_)
   ·have hb1 : b = true := hb1
    rw [hb1] at hb2
    refine ifK (fun _ => ?_) (fun h2 => absurd h2 (by simp [inI]; omega))
    refine Exists.intro e.o[i].c (Exists.intro e.o[i].d (And.intro (zAe layO h1) ?_))
    refine ifK (fun h3 => ?_) (fun h3 => ?_)
    ·refine ifK (fun _ => ?_) (fun h2 => absurd h2 (by simp [inI]; omega))
     refine Exists.intro e.o[i].c (Exists.intro e.o[i].d (And.intro (zAe layO h1) ?_))
     exact ⟨(i + 1, decide (e.o[i].c ≤ 65535)), ⟨h1, by show _ = (fineE e && (e.o.take (i + 1)).all okC); rw [ha, ← Bool.and_assoc, ← hb2]; unfold okC; rw [show decide (e.o[i].c ≥ 0) = true from h3]; rfl⟩, by show e.o.length - (i + 1) < e.o.length - i; omega, rcq [0] ⟨⟨_, rfl, .ptr _ _ _ rfl⟩, ⟨_, rfl, .bool _⟩, zAa rfl hw2, zAa rfl (by rw [wrapN (by omega) (by omega)]; omega), trivial⟩ ⟨⟨by decide, _, rfl, RO.clos rfl⟩, trivial⟩ .nil⟩
    ·refine ifK (fun _ => ?_) (fun h2 => absurd h2 (by simp [inI]; omega))
     refine Exists.intro e.o[i].c (Exists.intro e.o[i].d (And.intro (zAe layO h1) ?_))
     exact ⟨(i + 1, false), ⟨h1, by show _ = (fineE e && (e.o.take (i + 1)).all okC); rw [ha, ← Bool.and_assoc, ← hb2]; unfold okC; rw [show decide (e.o[i].c ≥ 0) = false from h3]; rfl⟩, by show e.o.length - (i + 1) < e.o.length - i; omega, rcq [0] ⟨⟨_, rfl, .ptr _ _ _ rfl⟩, ⟨_, rfl, .bool _⟩, zAa rfl hw2, zAa rfl (by rw [wrapN (by omega) (by omega)]; omega), trivial⟩ ⟨⟨by decide, _, rfl, RO.clos rfl⟩, trivial⟩ .nil⟩
   ·have hb1 : b = false := hb1
    rw [hb1] at hb2
    refine ifK (fun _ => ?_) (fun h2 => absurd h2 (by simp [inI]; omega))
    refine Exists.intro e.o[i].c (Exists.intro e.o[i].d (And.intro (zAe layO h1) ?_))
    exact ⟨(i + 1, false), ⟨h1, by show _ = (fineE e && (e.o.take (i + 1)).all okC); rw [ha, ← Bool.and_assoc, ← hb2]; rfl⟩, by show e.o.length - (i + 1) < e.o.length - i; omega, rcq [0] ⟨⟨_, rfl, .ptr _ _ _ rfl⟩, ⟨_, rfl, .bool _⟩, zAa rfl hw2, zAa rfl (by rw [wrapN (by omega) (by omega)]; omega), trivial⟩ ⟨⟨by decide, _, rfl, RO.clos rfl⟩, trivial⟩ .nil⟩
  ·have h1 : ¬ i < e.o.length := by have h1 : ¬ ((i : Nat) : Int) < (e.o.length : Int) := of_decide_eq_false h1; omega
   have hil : i = e.o.length := by omega
   subst hil
   rw [List.take_length] at hb2
   refine And.intro rfl (zAn (rcq [] (d := 6) (d2 := 0) (lv := [(3, .bool b), (4, .int .i64 ((sumO (e.o.take e.o.length) : Nat) : Int))]) (bs := []) (W := []) (m := 0) (df := []) ⟨⟨_, rfl, .bool _⟩, ⟨_, rfl, .int _ _⟩, trivial⟩ trivial .nil) (fun f => ?_))
   refine ifK (fun hb1 => ?_) (fun hb1 => ?_)
   ·have hb1 : (!b) = true := hb1
    have hb1 : b = false := by simpa using hb1
    rw [show chkE e = 5 by unfold chkE; rw [if_pos (by rw [← hb2, hb1])]]
    exact ⟨_, _, _, rfl⟩
   have hb1 : (!b) = false := hb1
   have hb1 : b = true := by simpa using hb1
   refine ifK (fun h5 => ?_) (fun h5 => ?_)
   ·have h5 : decide (((sumO (e.o.take e.o.length) : Nat) : Int) > 65535) = true := h5
    rw [List.take_length] at h5
    rw [show chkE e = 2 by unfold chkE; rw [if_neg (by rw [← hb2, hb1]; simp), if_pos (by have := of_decide_eq_true h5; omega)]]
    exact ⟨_, _, _, rfl⟩
   ·have h5 : decide (((sumO (e.o.take e.o.length) : Nat) : Int) > 65535) = false := h5
    rw [List.take_length] at h5
    rw [show chkE e = 0 by unfold chkE; rw [if_neg (by rw [← hb2, hb1]; simp), if_neg (by have := of_decide_eq_false h5; omega)]]
    exact ⟨_, _, _, rfl⟩
 have hg : fineE e = decide (e.ver ≤ 255) := by unfold fineE; rw [show decide (e.size ≥ 0) = true from g0, show decide (e.size ≤ 65535) = true from g1, show decide (e.ext ≥ 0) = true from g2, show decide (e.ext ≤ 127) = true from g3, show decide (e.ver ≥ 0) = true from g4]; rfl
 refine zAi (fun (p : Nat × Bool) f => ⟨slots 6 [(1, .pointer (some ⟨0, 0, none⟩)), (3, .bool p.2), (4, .int .i64 ((sumO (e.o.take p.1) : Nat) : Int)), (5, .int .i64 (p.1 : Nat))] f, heap 1 [(0, .cells e.cs 28)], 1, [], []⟩) (fun p => e.o.length - p.1) (fun p => p.1 ≤ e.o.length ∧ p.2 = (fineE e && (e.o.take p.1).all okC)) (0, (decide (e.ver ≤ 255))) ⟨Nat.zero_le _, by rw [hg]; simp⟩ (rcq [0] ⟨⟨_, rfl, .ptr _ _ _ rfl⟩, ⟨_, rfl, .bool _⟩, ⟨_, rfl, .int _ _⟩, ⟨_, rfl, .int _ _⟩, trivial⟩ ⟨⟨by decide, _, rfl, RO.clos rfl⟩, trivial⟩ .nil) ?_
 rintro ⟨i, b⟩ f ⟨hi, hb2⟩
 have hi : i ≤ e.o.length := hi
 have hb2 : b = (fineE e && (e.o.take i).all okC) := hb2
 refine zAq tbEp2 [] 0 _ none mixed _ _ _ ?_
 refine ifK (fun h1 => ?_) (fun h1 => ?_)
 ·have h1 : i < e.o.length := by have h1 : ((i : Nat) : Int) < (e.o.length : Int) := of_decide_eq_true h1; omega
  have hw : IntKind.i64.wrap (((sumO (e.o.take i) : Nat) : Int) + IntKind.i64.wrap (4 + (e.o[i].d.size : Int))) = ((sumO (e.o.take (i + 1)) : Nat) : Int) := by have := hsum (i + 1) h1; have e1 := zAg h1; rw [wrapN (x := 4 + (e.o[i].d.size : Int)) (by omega) (by omega), wrapN (by omega) (by omega)]; omega
  have hw2 : IntKind.i64.wrap (IntKind.i64.wrap (((sumO (e.o.take i) : Nat) : Int) + 4) + (e.o[i].d.size : Int)) = ((sumO (e.o.take (i + 1)) : Nat) : Int) := by have := hsum (i + 1) h1; have e1 := zAg h1; have e3 : IntKind.i64.wrap (((sumO (e.o.take i) : Nat) : Int) + 4) = ((sumO (e.o.take i) + 4 : Nat) : Int) := (by rw [wrapN (by omega) (by omega)]; omega); rw [e3, wrapN (by omega) (by omega)]; omega
  have ha := zBm h1
  refine ifK (fun hb1 => ?_) (fun hb1 => ?_)
  ·have hb1 : b = true := hb1
   rw [hb1] at hb2
   refine ifK (fun _ => ?_) (fun h2 => absurd h2 (by simp [inI]; omega))
   refine Exists.intro e.o[i].c (Exists.intro e.o[i].d (And.intro (zAe layO h1) ?_))
   refine ifK (fun h3 => ?_) (fun h3 => ?_)
   ·refine ifK (fun _ => ?_) (fun h2 => absurd h2 (by simp [inI]; omega))
    refine Exists.intro e.o[i].c (Exists.intro e.o[i].d (And.intro (zAe layO h1) ?_))
    exact ⟨(i + 1, decide (e.o[i].c ≤ 65535)), ⟨h1, by show _ = (fineE e && (e.o.take (i + 1)).all okC); rw [ha, ← Bool.and_assoc, ← hb2]; unfold okC; rw [show decide (e.o[i].c ≥ 0) = true from h3]; rfl⟩, by show e.o.length - (i + 1) < e.o.length - i; omega, rcq [0] ⟨⟨_, rfl, .ptr _ _ _ rfl⟩, ⟨_, rfl, .bool _⟩, zAa rfl hw2, zAa rfl (by rw [wrapN (by omega) (by omega)]; omega), trivial⟩ ⟨⟨by decide, _, rfl, RO.clos rfl⟩, trivial⟩ .nil⟩
   ·refine ifK (fun _ => ?_) (fun h2 => absurd h2 (by simp [inI]; omega))
    refine Exists.intro e.o[i].c (Exists.intro e.o[i].d (And.intro (zAe layO h1) ?_))
    exact ⟨(i + 1, false), ⟨h1, by show _ = (fineE e && (e.o.take (i + 1)).all okC); rw [ha, ← Bool.and_assoc, ← hb2]; unfold okC; rw [show decide (e.o[i].c ≥ 0) = false from h3]; rfl⟩, by show e.o.length - (i + 1) < e.o.length - i; omega, rcq [0] ⟨⟨_, rfl, .ptr _ _ _ rfl⟩, ⟨_, rfl, .bool _⟩, zAa rfl hw2, zAa rfl (by rw [wrapN (by omega) (by omega)]; omega), trivial⟩ ⟨⟨by decide, _, rfl, RO.clos rfl⟩, trivial⟩ .nil⟩
  ·have hb1 : b = false := hb1
   rw [hb1] at hb2
   refine ifK (fun _ => ?_) (fun h2 => absurd h2 (by simp [inI]; omega))
   refine Exists.intro e.o[i].c (Exists.intro e.o[i].d (And.intro (zAe layO h1) ?_))
   exact ⟨(i + 1, false), ⟨h1, by show _ = (fineE e && (e.o.take (i + 1)).all okC); rw [ha, ← Bool.and_assoc, ← hb2]; rfl⟩, by show e.o.length - (i + 1) < e.o.length - i; omega, rcq [0] ⟨⟨_, rfl, .ptr _ _ _ rfl⟩, ⟨_, rfl, .bool _⟩, zAa rfl hw2, zAa rfl (by rw [wrapN (by omega) (by omega)]; omega), trivial⟩ ⟨⟨by decide, _, rfl, RO.clos rfl⟩, trivial⟩ .nil⟩
 ·have h1 : ¬ i < e.o.length := by have h1 : ¬ ((i : Nat) : Int) < (e.o.length : Int) := of_decide_eq_false h1; omega
  have hil : i = e.o.length := by omega
  subst hil
  rw [List.take_length] at hb2
  refine And.intro rfl (zAn (rcq [] (d := 6) (d2 := 0) (lv := [(3, .bool b), (4, .int .i64 ((sumO (e.o.take e.o.length) : Nat) : Int))]) (bs := []) (W := []) (m := 0) (df := []) ⟨⟨_, rfl, .bool _⟩, ⟨_, rfl, .int _ _⟩, trivial⟩ trivial .nil) (fun f => ?_))
  refine ifK (fun hb1 => ?_) (fun hb1 => ?_)
  ·have hb1 : (!b) = true := hb1
   have hb1 : b = false := by simpa using hb1
   rw [show chkE e = 5 by unfold chkE; rw [if_pos (by rw [← hb2, hb1])]]
   exact ⟨_, _, _, rfl⟩
  have hb1 : (!b) = false := hb1
  have hb1 : b = true := by simpa using hb1
  refine ifK (fun h5 => ?_) (fun h5 => ?_)
  ·have h5 : decide (((sumO (e.o.take e.o.length) : Nat) : Int) > 65535) = true := h5
   rw [List.take_length] at h5
   rw [show chkE e = 2 by unfold chkE; rw [if_neg (by rw [← hb2, hb1]; simp), if_pos (by have := of_decide_eq_true h5; omega)]]
   exact ⟨_, _, _, rfl⟩
  ·have h5 : decide (((sumO (e.o.take e.o.length) : Nat) : Int) > 65535) = false := h5
   rw [List.take_length] at h5
   rw [show chkE e = 0 by unfold chkE; rw [if_neg (by rw [← hb2, hb1]; simp), if_neg (by have := of_decide_eq_false h5; omega)]]
   exact ⟨_, _, _, rfl⟩
end Go.Proofs.Ytknpgjeclmadkaa
namespace Go.Proofs.Ytknpgjeclmadkaa
open Go Go.RowKit
structure LtE where
 e : EdX
 o : Value
def LtE.v (x : LtE) : Value := .agg #[.int .i64 x.e.size, .int .i64 x.e.ext, .int .i64 x.e.ver, .bool x.e.dob, x.o]
def LtE.at (x : LtE) (H : Tr AObj) : Prop := LtL layO H x.o x.e.o
theorem LtE.uniq {x y : LtE} {H : Tr AObj} (q : x.v = y.v) (h : x.at H) (k : y.at H) : x = y := by
 obtain ⟨⟨s, e, v, d, o⟩, vo⟩ := x
 obtain ⟨⟨s', e', v', d', o'⟩, vo'⟩ := y
 simp only [LtE.v, Value.agg.injEq, Array.mk.injEq, List.cons.injEq, Value.int.injEq, Value.bool.injEq, true_and, and_true] at q
 obtain ⟨rfl, rfl, rfl, rfl, rfl⟩ := q
 have e1 : o = o' := LtL.uniq h k
 subst e1; rfl
theorem LtE.frz {x : LtE} {H : Tr AObj} (h : x.at H) : FrzP True Try.prog 0 H x.v x.e.v :=
 .agg _ _ (.cons _ _ _ _ (.one _ _ (.plain _ rfl)) (.cons _ _ _ _ (.one _ _ (.plain _ rfl)) (.cons _ _ _ _ (.one _ _ (.plain _ rfl)) (.cons _ _ _ _ (.one _ _ (.plain _ rfl)) (.cons _ _ _ _ (LtL.frz (by kernel_rfl) h) .nil)))))
def EdX.lt (e : EdX) : LtE := ⟨e, trO e.o⟩
theorem EdX.lt_at (e : EdX) (H : Tr AObj) : e.lt.at H := .tree _ _ _
noncomputable def ct_chkL : Ct Try.prog 0 := CtR.lend 15 LtE (fun x => [x.v]) LtE.at (fun x => [x.e.v]) (fun x => x.e.small) (fun x => .int .i64 (chkE x.e)) (fun _ _ _ e h k => LtE.uniq (by simpa using e) h k) (fun _ _ h => .cons _ _ _ _ (LtE.frz h) .nil)
 (fun x h => by obtain ⟨r, hF, H, k, wr, rfl⟩ := chk_tr x.e h; exact ⟨_, _, _, _, hF, .one _ _ (.plain _ rfl)⟩)
theorem ed1_inj {a b : EdX} (h : [a.v] = [b.v]) : a = b := EdX.v_inj (by simpa using h)
noncomputable def zPm : Ct Try.prog 0 := CtR.tree 16 EdX (fun e => [e.v]) (fun e => e.small) (fun e => .int .i64 (chkE e)) (fun _ _ h => ed1_inj h) (fun _ => rfl)
 (fun e h => by obtain ⟨r, hF, H, k, wr, rfl⟩ := rchk_tr e h; exact ⟨_, _, _, _, hF, .one _ _ (.plain _ rfl)⟩)
noncomputable def ct_sameEL : Ct Try.prog 0 := CtR.lend 19 LtE (fun x => [x.v, x.e.v]) LtE.at (fun x => [x.e.v, x.e.v]) (fun x => x.e.o.length ≤ 1000000000) (fun _ => .bool true) (fun _ _ _ e h k => LtE.uniq (by simp only [List.cons.injEq, and_true] at e; exact e.1) h k) (fun _ _ h => .cons _ _ _ _ (LtE.frz h) (.cons _ _ _ _ (LtE.frz (EdX.lt_at _ _)) .nil))
 (fun x h => by obtain ⟨r, hF, H, k, wr, rfl⟩ := sameE_tr x.e h; exact ⟨_, _, _, _, hF, .one _ _ (.plain _ rfl)⟩)
noncomputable def tbEp3 : Tb Try.prog 0 := tbOf mixed []
theorem copyE_fn (e : EdX) (hl : e.o.length ≤ 1000000) : ∃ r, FnS Try.prog 0 11 [e.v] .e 0 r ∧ ∃ b H k wr, r = .ret (.agg #[.int .i64 e.size, .int .i64 e.ext, .int .i64 e.ver, .bool e.dob, .slice (some ⟨b, 0, none⟩) e.o.length (capO e.o)]) H k wr ∧ b < JJ ∧ H.get b = some (.cells (e.o.flatMap layO.g) 60) := by
 have hby : (Try.prog.types[60]).bytes ≤ 100 := by decide +kernel
 refine zCe mixed tbEp3 [] Try.func11 (c := bodyOf Try.f11) (by kernel_rfl) ?_
 refine ifK (fun h0 => ?_) (fun h0 => ?_)
 ·have h0 : e.o = [] := List.eq_nil_of_length_eq_zero (Nat.eq_of_beq_eq_true h0)
  rw [h0]
  exact ⟨2, _, _, _, rfl, by decide, rfl⟩
 ·have hne : e.o ≠ [] := fun q => by rw [q] at h0; exact absurd h0 (by decide)
  refine And.intro (by simp only [Bool.and_eq_true, decide_eq_true_eq, Nat.zero_add]; have := Nat.mul_le_mul hl hby; and_intros <;> omega) ?_
  have hc : capO e.o = U := by cases hq : e.o with | nil => exact absurd hq hne | cons a b => rfl
  rw [hc]
  refine ⟨3, _, _, _, congrArg (fun n => Res.ret (Value.agg #[.int .i64 e.size, .int .i64 e.ext, .int .i64 e.ver, .bool e.dob, .slice (some ⟨3, 0, none⟩) n U]) _ _ _) (Nat.zero_add _), by decide, rfl⟩
noncomputable def ct_copyEN : Ct Try.prog 0 :=
 CtR.ct { f := 11, X := EdX, pre := fun e a _ _ => a = [e.v] ∧ e.o.length ≤ 1000000, out := fun e H n => .ret (.agg #[.int .i64 e.size, .int .i64 e.ext, .int .i64 e.ver, .bool e.dob, ownV n e.o]) (layN H n [(e.o.flatMap layO.g, 60)]) (n + 1) [],
          ok := fun e as0 H n ⟨h1, h2⟩ => by
           subst h1
           obtain ⟨r, hF, b, H', k, wr, rfl, hJ, g⟩ := copyE_fn e h2
           exact zAu (fun n => .agg #[.int .i64 e.size, .int .i64 e.ext, .int .i64 e.ver, .bool e.dob, ownV n e.o]) [b] [(e.o.flatMap layO.g, 60)] hF (.cons _ _ _ _ (LtE.frz (e.lt_at H)) .nil) (by simp) (fun x hx => by simp at hx; subst hx; exact hJ) rfl
            (fun i b' xs t hb hc => by
             match i, hb, hc with
             | 0, hb, hc => cases hb; cases hc; exact ⟨[], by rw [List.append_nil]; exact g, zAc layO.g layO.plain _, .inl rfl⟩
             | i + 1, hb, hc => simp at hb)
            (fun n => .agg _ _ (.cons _ _ _ _ (.plain _ rfl) (.cons _ _ _ _ (.plain _ rfl) (.cons _ _ _ _ (.plain _ rfl) (.cons _ _ _ _ (.plain _ rfl) (.cons _ _ _ _ (.sl _ _ _ _ _ (zAh (i := 0) (by simp) rfl)) .nil)))))),
          uniq := fun x x' a H m ⟨h1, _⟩ ⟨k1, _⟩ => by rw [h1] at k1; rw [ed1_inj k1] }
end Go.Proofs.Ytknpgjeclmadkaa
namespace Go.Proofs.Ytknpgjeclmadkaa
open Go Go.RowKit
def optB (o : OpX) : Bl := by2 o.c.toNat ++ (by2 o.d.size ++ o.d.data.toList)
def dataO (l : List OpX) : Bl := l.flatMap optB
def ttlE (e : EdX) : Int := if e.dob then bitsI .or .i64 (bitsI .or .i64 (shlI .i64 e.ext 24) (shlI .i64 e.ver 16)) 32768 else bitsI .or .i64 (shlI .i64 e.ext 24) (shlI .i64 e.ver 16)
def recE (e : EdX) : RcX := ⟨⟨#[0]⟩, 41, e.size, ttlE e, ⟨(dataO e.o).toArray⟩⟩
theorem chk_ok {e : EdX} (h : (chkE e != 0) = false) : (∀ o ∈ e.o, 0 ≤ o.c ∧ o.c ≤ 65535) ∧ sumO e.o ≤ 65535 := by
 have h : chkE e = 0 := by simpa using h
 unfold chkE at h
 split at h
 ·cases h
 rename_i h1
 split at h
 ·cases h
 refine ⟨fun o ho => ?_, by omega⟩
 have h1 : (fineE e && e.o.all okC) = true := by simpa using h1
 have h2 := List.all_eq_true.1 (Bool.and_eq_true_iff.1 h1).2 o ho
 unfold okC at h2
 simpa using h2
theorem zFz {o : OpX} : ∀ {l : List OpX}, o ∈ l → 4 + o.d.size ≤ sumO l
 | x :: l, h => by
  rcases List.mem_cons.1 h with rfl | h
  ·show _ ≤ sumO l + _; omega
  ·have := zFz h; show _ ≤ sumO l + _; omega
theorem zLf (o : OpX) : (optB o).length = 4 + o.d.size := by simp only [optB, by2, List.length_append, List.length_cons, List.length_nil, Array.length_toList]; show 0 + 1 + 1 + (0 + 1 + 1 + o.d.data.size) = 4 + o.d.data.size; omega
theorem zDw : ∀ l : List OpX, (dataO l).length = sumO l
 | [] => rfl
 | o :: l => by have := zDw l; unfold dataO at this ⊢; rw [List.flatMap_cons, List.length_append, zLf, this]; show _ = sumO l + _; omega
theorem zLp {l : List OpX} (i : Nat) : sumO (l.take i) ≤ sumO l := by
 induction l generalizing i with
 | nil => rw [List.take_nil]; exact Nat.le_refl _
 | cons o l ih => cases i with
  | zero => exact Nat.zero_le _
  | succ i => have := ih i; show sumO (l.take i) + _ ≤ sumO l + _; omega
theorem zGj {l : List OpX} {i : Nat} (h : i < l.length) : dataO (l.take (i + 1)) = dataO (l.take i) ++ optB l[i] := by unfold dataO; rw [List.take_succ_eq_append_getElem h, List.flatMap_append]; simp
theorem catOk9 {s t : ByteArray} (h1 : s.data.toList.length ≤ 1000000) (h2 : t.data.toList.length ≤ 1000000) : catOk s t = true := by
 simp only [Array.length_toList] at h1 h2
 exact Nat.ble_eq_true_of_le (by omega)
theorem zHl (a b : ByteArray) : (catS a b).data.toList.length = a.data.toList.length + b.data.toList.length := by simp [catS]
def boxE (e : EdX) (i : Nat) : List Value := [.string ⟨#[0]⟩, .int .i64 41, .int .i64 e.size, .int .i64 (ttlE e), .string ⟨(dataO (e.o.take i)).toArray⟩]
theorem zPk {e : EdX} {i : Nat} (h : i < e.o.length) : [Value.string ⟨#[0]⟩, .int .i64 41, .int .i64 e.size, .int .i64 (ttlE e), .string (catS ⟨(dataO (e.o.take i)).toArray⟩ (catS (catS ⟨(by2 e.o[i].c.toNat).toArray⟩ ⟨(by2 e.o[i].d.size).toArray⟩) e.o[i].d))] = boxE e (i + 1) := by
 have : catS ⟨(dataO (e.o.take i)).toArray⟩ (catS (catS ⟨(by2 e.o[i].c.toNat).toArray⟩ ⟨(by2 e.o[i].d.size).toArray⟩) e.o[i].d) = ⟨(dataO (e.o.take (i + 1))).toArray⟩ := by
  rw [zGj h]
  unfold catS optB
  simp
 rw [this]; rfl
def stO (m : MsT) (H : Tr AObj) (n : Nat) (v : Value) (c : List Value × TypeId) : Res :=
 .ret (.agg #[.int .i64 m.strip.id, .int .i64 m.strip.fl, ownV n m.strip.q, ownV (n + 1) m.strip.an, ownV (n + 2) m.strip.ns, v]) (layN H n [(m.strip.q.flatMap layQ.g, ownT 25 57 m.strip.q), (m.strip.an.flatMap layR.g, ownT 23 48 m.strip.an), (m.strip.ns.flatMap layR.g, ownT 23 48 m.strip.ns), c]) (n + 4) []
noncomputable def ct_stripP : Ct Try.prog 0 :=
 CtR.ct { f := 23, X := LtM, pre := fun x a H _ => a = [x.v] ∧ x.at H ∧ x.m.fit 1000000, out := fun x H n => .ret (nmV x.m.strip n (n + 1) (n + 2) (n + 3)) (layN H n (nmC x.m.strip)) (n + 4) [],
          ok := strip_ok, uniq := strip_uq,
          tr := fun x H n K => (x.m.strip.ar = [] → K (stO x.m H n (.slice (some ⟨n + 3, 0, none⟩) 0 0) ([], 23))) ∧ ∀ y l, x.m.strip.ar = y :: l → K (stO x.m H n (.slice (some ⟨n + 3, 0, none⟩) (l.length + 1) U) ((y :: l).flatMap layR.g, 48)),
          trOk := fun x H n K h => by
           cases e : x.m.strip.ar with
           | nil => have := h.1 e; unfold nmV nmC; rw [e]; exact this
           | cons y l => have := h.2 y l e; unfold nmV nmC; rw [e]; exact this }
noncomputable def tbEp4 : Tb Try.prog 0 := tbOf mixed [ct_chkL, ct_countT, ct_put16, ct_stripP]
def zM : List Value := [.int .i64 0, .int .i64 0, .slice none 0 0, .slice none 0 0, .slice none 0 0, .slice none 0 0]
def putF (m : MsT) (e : EdX) : Int := if chkE e ≠ 0 then chkE e else if cntO m.an + cntO m.ns + cntO m.ar > 0 then 7 else 0
def pcM (m : MsT) (e : EdX) : MsT := ⟨m.id, m.fl, m.strip.q, m.strip.an, m.strip.ns, m.strip.ar ++ [recE e]⟩
def PutR (m : MsT) (e : EdX) (H : Tr AObj) (v : Value) : Prop :=
 (putF m e ≠ 0 ∧ v = .tuple #[.agg ⟨zM⟩, .int .i64 (putF m e)]) ∨ (putF m e = 0 ∧ ∃ b, v = .tuple #[.agg #[.int .i64 m.id, .int .i64 m.fl, ownV 3 (pcM m e).q, ownV 4 (pcM m e).an, ownV 5 (pcM m e).ns, .slice (some ⟨b, 0, none⟩) (pcM m e).ar.length U], .int .i64 0] ∧ 5 < b ∧ b < JJ ∧
  H.get 3 = some (ownB layQ 25 (pcM m e).q) ∧ H.get 4 = some (ownB layR 23 (pcM m e).an) ∧ H.get 5 = some (ownB layR 23 (pcM m e).ns) ∧ H.get b = some (.cells ((pcM m e).ar.flatMap layR.g) 48))
theorem put_fn (m : MsT) (e : EdX) (hf : m.fit 1000000) (hs : e.small) : ∃ r, FnS Try.prog 0 12 [m.v, e.v] .e 0 r ∧ ∃ v H k wr, r = .ret v H k wr ∧ PutR m e H v := by
 obtain ⟨f1, f2, f3, f4⟩ := hf
 have hl9 : e.o.length ≤ 1000 := hs.1
 have hby : (Try.prog.types[48]).bytes ≤ 100 := by decide +kernel
 have hz : (Try.prog.types[48]).size = 5 := by kernel_rfl
 have c2 : cntO m.an ≤ 1000000 := Nat.le_trans (List.length_filter_le _ _) f2
 have c3 : cntO m.ns ≤ 1000000 := Nat.le_trans (List.length_filter_le _ _) f3
 have c4 : cntO m.ar ≤ 1000000 := Nat.le_trans (List.length_filter_le _ _) f4
 have w1 : IntKind.i64.wrap (IntKind.i64.wrap ((cntO m.an : Int) + (cntO m.ns : Int)) + (cntO m.ar : Int)) = ((cntO m.an + cntO m.ns + cntO m.ar : Nat) : Int) := by
  rw [wrapN (x := (cntO m.an : Int) + (cntO m.ns : Int)) (by omega) (by omega), wrapN (by omega) (by omega)]; omega
 refine zCe mixed tbEp4 [] Try.func12 (c := bodyOf Try.f12) (by kernel_rfl) ?_
 refine Exists.intro e.lt (And.intro ⟨rfl, EdX.lt_at _ _, hs⟩ ?_)
 refine ifK (fun h0 => ?_) (fun h0 => ?_)
 ·have h0 : (chkE e != 0) = true := h0
  have h0 : chkE e ≠ 0 := by simpa using h0
  have hp : putF m e = chkE e := by unfold putF; rw [if_pos h0]
  exact ⟨_, _, _, _, rfl, .inl ⟨by rw [hp]; exact h0, by rw [hp]; rfl⟩⟩
 have h0 : (chkE e != 0) = false := h0
 obtain ⟨hC, hS⟩ := chk_ok h0
 refine And.intro (by kernel_rfl) ?_
 refine Exists.intro m.an (And.intro ⟨rfl, by show m.an.length ≤ _; omega⟩ ?_)
 refine Exists.intro m.ns (And.intro ⟨rfl, by show m.ns.length ≤ _; omega⟩ ?_)
 refine Exists.intro m.ar (And.intro ⟨rfl, by show m.ar.length ≤ _; omega⟩ ?_)
 have h00 : chkE e = 0 := by simpa using h0
 refine ifK (fun h1 => ?_) (fun h1 => ?_)
 ·have h1 : decide (IntKind.i64.wrap (IntKind.i64.wrap ((cntO m.an : Int) + (cntO m.ns : Int)) + (cntO m.ar : Int)) > 0) = true := h1
  rw [w1] at h1
  have hp : putF m e = 7 := by unfold putF; rw [if_neg (by simp [h00]), if_pos (by have := of_decide_eq_true h1; omega)]
  exact ⟨_, _, _, _, rfl, .inl ⟨by rw [hp]; decide, by rw [hp]; rfl⟩⟩
 have h1 : decide (IntKind.i64.wrap (IntKind.i64.wrap ((cntO m.an : Int) + (cntO m.ns : Int)) + (cntO m.ar : Int)) > 0) = false := h1
 rw [w1] at h1
 have hp : putF m e = 0 := by unfold putF; rw [if_neg (by simp [h00]), if_neg (by have := of_decide_eq_false h1; omega)]
 refine ifK (fun hd => ?_) (fun hd => ?_)
 ·refine zAi (fun (i : Nat) f => ⟨slots 7 [(2, .pointer (some ⟨0, 0, none⟩)), (4, .pointer (some ⟨1, 0, none⟩)), (7, .pointer (some ⟨2, 0, none⟩)), (50, trO e.o), (51, .int .i64 (e.o.length : Nat)), (52, .int .i64 (i : Nat))] f, heap 2 [(0, .cells m.cs 25), (1, .cells zM 25), (2, .cells (boxE e i) 48)], 3, [], []⟩) (fun i => e.o.length - i) (fun i => i ≤ e.o.length) 0 (Nat.zero_le _) (rcq [0, 2, 3] ⟨⟨_, rfl, .ptr _ _ _ rfl⟩, ⟨_, rfl, .ptr _ _ _ rfl⟩, ⟨_, rfl, .ptr _ _ _ rfl⟩, ⟨_, rfl, zAd 8 rfl⟩, ⟨_, rfl, .int _ _⟩, ⟨_, rfl, .int _ _⟩, trivial⟩ ⟨⟨by decide, _, rfl, RO.clos rfl⟩, ⟨by decide, _, rfl, RO.clos rfl⟩, ⟨by decide, _, rfl, zDs (by unfold boxE ttlE; rw [if_pos hd]; rfl) rfl⟩, trivial⟩ .nil) ?_
  rintro i f hi
  have hi : i ≤ e.o.length := hi
  refine zAq tbEp4 [4, 5] 0 _ none mixed _ _ _ ?_
  refine ifK (fun h1 => ?_) (fun h1 => ?_)
  ·have h1 : i < e.o.length := by have h1 : ((i : Nat) : Int) < (e.o.length : Int) := of_decide_eq_true h1; omega
   have hcr := hC e.o[i] (List.getElem_mem h1)
   have hcn : e.o[i].c = ((e.o[i].c.toNat : Nat) : Int) := by omega
   have hsz : 4 + e.o[i].d.size ≤ 65535 := Nat.le_trans (zFz (List.getElem_mem h1)) hS
   refine ifK (fun _ => ?_) (fun h2 => absurd h2 (by simp [inI]; omega))
   refine Exists.intro e.o[i].c (Exists.intro e.o[i].d (And.intro (zAe layO h1) ?_))
   refine Exists.intro e.o[i].c.toNat (And.intro ⟨congrArg (fun x => [Value.int .i64 x]) hcn, by omega⟩ ?_)
   refine Exists.intro e.o[i].d.size (And.intro ⟨rfl, by omega⟩ ?_)
   refine Exists.intro (by2 e.o[i].c.toNat) (And.intro rfl ?_)
   refine Exists.intro (by2 e.o[i].d.size) (And.intro rfl ?_)
   have hd9 : (dataO (e.o.take i)).length ≤ 65535 := by rw [zDw]; exact Nat.le_trans (zLp i) hS
   have ho9 : e.o[i].d.data.toList.length ≤ 65535 := by rw [Array.length_toList]; show e.o[i].d.size ≤ _; omega
   have hb9 : ∀ v : Nat, (⟨(by2 v).toArray⟩ : ByteArray).data.toList.length = 2 := fun _ => rfl
   have hc9 : (catS ⟨(by2 e.o[i].c.toNat).toArray⟩ ⟨(by2 e.o[i].d.size).toArray⟩).data.toList.length = 4 := by rw [zHl, hb9, hb9]
   have hx9 : (catS (catS ⟨(by2 e.o[i].c.toNat).toArray⟩ ⟨(by2 e.o[i].d.size).toArray⟩) e.o[i].d).data.toList.length ≤ 65539 := by rw [zHl, hc9]; omega
   refine And.intro (catOk9 (by rw [hb9]; decide) (by rw [hb9]; decide)) ?_
   refine And.intro (catOk9 (Nat.le_trans (Nat.le_of_eq hc9) (by decide)) (Nat.le_trans ho9 (by decide))) ?_
   refine And.intro (catOk9 (Nat.le_trans (show (dataO (e.o.take i)).length ≤ _ from hd9) (by decide)) (Nat.le_trans hx9 (by decide))) ?_
   exact ⟨i + 1, h1, by show e.o.length - (i + 1) < e.o.length - i; omega, rcq [0, 1, 2] ⟨⟨_, rfl, .ptr _ _ _ rfl⟩, ⟨_, rfl, .ptr _ _ _ rfl⟩, ⟨_, rfl, .ptr _ _ _ rfl⟩, ⟨_, rfl, zAd 8 rfl⟩, ⟨_, rfl, .int _ _⟩, zAa rfl (by rw [wrapN (by omega) (by omega)]; omega), trivial⟩ ⟨⟨by decide, _, rfl, RO.clos rfl⟩, ⟨by decide, _, rfl, RO.clos rfl⟩, ⟨by decide, _, rfl, zDs (zPk h1) rfl⟩, trivial⟩ .nil⟩
  ·have h1 : ¬ i < e.o.length := by have h1 : ¬ ((i : Nat) : Int) < (e.o.length : Int) := of_decide_eq_false h1; omega
   have hil : i = e.o.length := by omega
   subst hil
   refine And.intro rfl (zAn (rcq [0, 1, 2] (d := 7) (d2 := 2) (lv := [(2, .pointer (some ⟨0, 0, none⟩)), (4, .pointer (some ⟨1, 0, none⟩)), (7, .pointer (some ⟨2, 0, none⟩))]) (bs := [(0, .cells m.cs 25), (1, .cells zM 25), (2, .cells (recE e).g 48)]) (W := []) (m := 3) (df := []) ⟨⟨_, rfl, .ptr _ _ _ rfl⟩, ⟨_, rfl, .ptr _ _ _ rfl⟩, ⟨_, rfl, .ptr _ _ _ rfl⟩, trivial⟩ ⟨⟨by decide, _, rfl, RO.clos rfl⟩, ⟨by decide, _, rfl, RO.clos rfl⟩, ⟨by decide, _, rfl, zDs (by unfold boxE; rw [List.take_length]; rfl) rfl⟩, trivial⟩ .nil) (fun f => ?_))
   refine Exists.intro m.lt (And.intro ⟨rfl, m.lt_at _, f1, f2, f3, f4⟩ ?_)
   refine And.intro (fun hA => ?_) (fun y l hA => ?_)
   ·have hA : m.strip.ar = [] := hA
    have e1 : (pcM m e).ar = [recE e] := by unfold pcM; rw [hA]; rfl
    exact ⟨_, _, _, _, rfl, .inr ⟨hp, 8, by rw [e1]; rfl, by decide, by decide, by kernel_rfl, by kernel_rfl, by kernel_rfl, by rw [e1]; kernel_rfl⟩⟩
   ·have hA : m.strip.ar = y :: l := hA
    have hle : l.length + 1 ≤ 1000000 := by have : (m.strip.ar).length ≤ m.ar.length := List.length_filter_le _ _; rw [hA] at this; simp only [List.length_cons] at this; omega
    have hlen : ((y :: l).flatMap layR.g).length = (l.length + 1) * 5 := zAb layR.g 5 layR.len (y :: l)
    refine And.intro ?_ ?_
    ·have := Nat.mul_le_mul (show l.length + 1 + 1 ≤ 2000000 by omega) hby
     simp only [Bool.and_eq_true, decide_eq_true_eq]
     refine ⟨⟨⟨⟨⟨⟨rfl, rfl⟩, Nat.ble_eq_true_of_le ?_⟩, rfl⟩, ?_⟩, ?_⟩, Nat.ble_eq_true_of_le ?_⟩
     ·rw [hz, hlen]; exact Nat.le_refl _
     ·omega
     ·omega
     ·rw [hz, hlen]; show _ ≤ 0 + (l.length + 1) * 5 + 5; omega
    have hnew : (((y :: l).flatMap layR.g).take ((l.length + 1) * (Try.prog.types[48]).size) ++ layR.g (recE e)) = (pcM m e).ar.flatMap layR.g := by
     unfold pcM
     rw [hz, List.take_of_length_le (by rw [hlen]; exact Nat.le_refl _), hA, List.flatMap_append]; simp
    have e2 : (pcM m e).ar.length = l.length + 1 + 1 := by unfold pcM; rw [hA]; simp
    exact ⟨_, _, _, _, rfl, .inr ⟨hp, 8, by rw [e2]; rfl, by decide, by decide, by kernel_rfl, by kernel_rfl, by kernel_rfl, by rw [← hnew]; kernel_rfl⟩⟩
 ·refine zAi (fun (i : Nat) f => ⟨slots 7 [(2, .pointer (some ⟨0, 0, none⟩)), (4, .pointer (some ⟨1, 0, none⟩)), (7, .pointer (some ⟨2, 0, none⟩)), (50, trO e.o), (51, .int .i64 (e.o.length : Nat)), (52, .int .i64 (i : Nat))] f, heap 2 [(0, .cells m.cs 25), (1, .cells zM 25), (2, .cells (boxE e i) 48)], 3, [], []⟩) (fun i => e.o.length - i) (fun i => i ≤ e.o.length) 0 (Nat.zero_le _) (rcq [0, 2, 3] ⟨⟨_, rfl, .ptr _ _ _ rfl⟩, ⟨_, rfl, .ptr _ _ _ rfl⟩, ⟨_, rfl, .ptr _ _ _ rfl⟩, ⟨_, rfl, zAd 8 rfl⟩, ⟨_, rfl, .int _ _⟩, ⟨_, rfl, .int _ _⟩, trivial⟩ ⟨⟨by decide, _, rfl, RO.clos rfl⟩, ⟨by decide, _, rfl, RO.clos rfl⟩, ⟨by decide, _, rfl, zDs (by unfold boxE ttlE; rw [if_neg (show ¬ e.dob = true from by rw [show e.dob = false from hd]; simp)]; rfl) rfl⟩, trivial⟩ .nil) ?_
  rintro i f hi
  have hi : i ≤ e.o.length := hi
  refine zAq tbEp4 [4, 5] 0 _ none mixed _ _ _ ?_
  refine ifK (fun h1 => ?_) (fun h1 => ?_)
  ·have h1 : i < e.o.length := by have h1 : ((i : Nat) : Int) < (e.o.length : Int) := of_decide_eq_true h1; omega
   have hcr := hC e.o[i] (List.getElem_mem h1)
   have hcn : e.o[i].c = ((e.o[i].c.toNat : Nat) : Int) := by omega
   have hsz : 4 + e.o[i].d.size ≤ 65535 := Nat.le_trans (zFz (List.getElem_mem h1)) hS
   refine ifK (fun _ => ?_) (fun h2 => absurd h2 (by simp [inI]; omega))
   refine Exists.intro e.o[i].c (Exists.intro e.o[i].d (And.intro (zAe layO h1) ?_))
   refine Exists.intro e.o[i].c.toNat (And.intro ⟨congrArg (fun x => [Value.int .i64 x]) hcn, by omega⟩ ?_)
   refine Exists.intro e.o[i].d.size (And.intro ⟨rfl, by omega⟩ ?_)
   refine Exists.intro (by2 e.o[i].c.toNat) (And.intro rfl ?_)
   refine Exists.intro (by2 e.o[i].d.size) (And.intro rfl ?_)
   have hd9 : (dataO (e.o.take i)).length ≤ 65535 := by rw [zDw]; exact Nat.le_trans (zLp i) hS
   have ho9 : e.o[i].d.data.toList.length ≤ 65535 := by rw [Array.length_toList]; show e.o[i].d.size ≤ _; omega
   have hb9 : ∀ v : Nat, (⟨(by2 v).toArray⟩ : ByteArray).data.toList.length = 2 := fun _ => rfl
   have hc9 : (catS ⟨(by2 e.o[i].c.toNat).toArray⟩ ⟨(by2 e.o[i].d.size).toArray⟩).data.toList.length = 4 := by rw [zHl, hb9, hb9]
   have hx9 : (catS (catS ⟨(by2 e.o[i].c.toNat).toArray⟩ ⟨(by2 e.o[i].d.size).toArray⟩) e.o[i].d).data.toList.length ≤ 65539 := by rw [zHl, hc9]; omega
   refine And.intro (catOk9 (by rw [hb9]; decide) (by rw [hb9]; decide)) ?_
   refine And.intro (catOk9 (Nat.le_trans (Nat.le_of_eq hc9) (by decide)) (Nat.le_trans ho9 (by decide))) ?_
   refine And.intro (catOk9 (Nat.le_trans (show (dataO (e.o.take i)).length ≤ _ from hd9) (by decide)) (Nat.le_trans hx9 (by decide))) ?_
   exact ⟨i + 1, h1, by show e.o.length - (i + 1) < e.o.length - i; omega, rcq [0, 1, 2] ⟨⟨_, rfl, .ptr _ _ _ rfl⟩, ⟨_, rfl, .ptr _ _ _ rfl⟩, ⟨_, rfl, .ptr _ _ _ rfl⟩, ⟨_, rfl, zAd 8 rfl⟩, ⟨_, rfl, .int _ _⟩, zAa rfl (by rw [wrapN (by omega) (by omega)]; omega), trivial⟩ ⟨⟨by decide, _, rfl, RO.clos rfl⟩, ⟨by decide, _, rfl, RO.clos rfl⟩, ⟨by decide, _, rfl, zDs (zPk h1) rfl⟩, trivial⟩ .nil⟩
  ·have h1 : ¬ i < e.o.length := by have h1 : ¬ ((i : Nat) : Int) < (e.o.length : Int) := of_decide_eq_false h1; omega
   have hil : i = e.o.length := by omega
   subst hil
   refine And.intro rfl (zAn (rcq [0, 1, 2] (d := 7) (d2 := 2) (lv := [(2, .pointer (some ⟨0, 0, none⟩)), (4, .pointer (some ⟨1, 0, none⟩)), (7, .pointer (some ⟨2, 0, none⟩))]) (bs := [(0, .cells m.cs 25), (1, .cells zM 25), (2, .cells (recE e).g 48)]) (W := []) (m := 3) (df := []) ⟨⟨_, rfl, .ptr _ _ _ rfl⟩, ⟨_, rfl, .ptr _ _ _ rfl⟩, ⟨_, rfl, .ptr _ _ _ rfl⟩, trivial⟩ ⟨⟨by decide, _, rfl, RO.clos rfl⟩, ⟨by decide, _, rfl, RO.clos rfl⟩, ⟨by decide, _, rfl, zDs (by unfold boxE; rw [List.take_length]; rfl) rfl⟩, trivial⟩ .nil) (fun f => ?_))
   refine Exists.intro m.lt (And.intro ⟨rfl, m.lt_at _, f1, f2, f3, f4⟩ ?_)
   refine And.intro (fun hA => ?_) (fun y l hA => ?_)
   ·have hA : m.strip.ar = [] := hA
    have e1 : (pcM m e).ar = [recE e] := by unfold pcM; rw [hA]; rfl
    exact ⟨_, _, _, _, rfl, .inr ⟨hp, 8, by rw [e1]; rfl, by decide, by decide, by kernel_rfl, by kernel_rfl, by kernel_rfl, by rw [e1]; kernel_rfl⟩⟩
   ·have hA : m.strip.ar = y :: l := hA
    have hle : l.length + 1 ≤ 1000000 := by have : (m.strip.ar).length ≤ m.ar.length := List.length_filter_le _ _; rw [hA] at this; simp only [List.length_cons] at this; omega
    have hlen : ((y :: l).flatMap layR.g).length = (l.length + 1) * 5 := zAb layR.g 5 layR.len (y :: l)
    refine And.intro ?_ ?_
    ·have := Nat.mul_le_mul (show l.length + 1 + 1 ≤ 2000000 by omega) hby
     simp only [Bool.and_eq_true, decide_eq_true_eq]
     refine ⟨⟨⟨⟨⟨⟨rfl, rfl⟩, Nat.ble_eq_true_of_le ?_⟩, rfl⟩, ?_⟩, ?_⟩, Nat.ble_eq_true_of_le ?_⟩
     ·rw [hz, hlen]; exact Nat.le_refl _
     ·omega
     ·omega
     ·rw [hz, hlen]; show _ ≤ 0 + (l.length + 1) * 5 + 5; omega
    have hnew : (((y :: l).flatMap layR.g).take ((l.length + 1) * (Try.prog.types[48]).size) ++ layR.g (recE e)) = (pcM m e).ar.flatMap layR.g := by
     unfold pcM
     rw [hz, List.take_of_length_le (by rw [hlen]; exact Nat.le_refl _), hA, List.flatMap_append]; simp
    have e2 : (pcM m e).ar.length = l.length + 1 + 1 := by unfold pcM; rw [hA]; simp
    exact ⟨_, _, _, _, rfl, .inr ⟨hp, 8, by rw [e2]; rfl, by decide, by decide, by kernel_rfl, by kernel_rfl, by kernel_rfl, by rw [← hnew]; kernel_rfl⟩⟩
noncomputable def ct_putL : Ct Try.prog 0 :=
 CtR.ct { f := 12, X := LtM × LtE, pre := fun x a H _ => a = [x.1.v, x.2.v] ∧ (x.1.at H ∧ x.2.at H) ∧ x.1.m.fit 1000000 ∧ x.2.e.small,
          out := fun x H n => if putF x.1.m x.2.e = 0 then .ret (.tuple #[nmV (pcM x.1.m x.2.e) n (n + 1) (n + 2) (n + 3), .int .i64 0]) (layN H n (nmC (pcM x.1.m x.2.e))) (n + 4) [] else .ret (.tuple #[.agg ⟨zM⟩, .int .i64 (putF x.1.m x.2.e)]) H n [],
          ok := fun x as0 H n ⟨h1, ⟨h2, h3⟩, h4, h5⟩ => by
           subst h1
           obtain ⟨r, hF, v, H', k, wr, rfl, ⟨g0, rfl⟩ | ⟨g0, b, rfl, hb1, hb2, r1, r2, r3, r4⟩⟩ := put_fn x.1.m x.2.e h4 h5
           ·show TOK _ _ _ _ (if _ then _ else _)
            rw [if_neg g0]
            exact zDe hF (.cons _ _ _ _ (LtM.frz h2) (.cons _ _ _ _ (LtE.frz h3) .nil)) (.tuple _ _ (.cons _ _ _ _ (.agg _ _ (.cons _ _ _ _ (.one _ _ (.plain _ rfl)) (.cons _ _ _ _ (.one _ _ (.plain _ rfl)) (.cons _ _ _ _ (.one _ _ (.plain _ rfl)) (.cons _ _ _ _ (.one _ _ (.plain _ rfl)) (.cons _ _ _ _ (.one _ _ (.plain _ rfl)) (.cons _ _ _ _ (.one _ _ (.plain _ rfl)) .nil))))))) (.cons _ _ _ _ (.one _ _ (.plain _ rfl)) .nil)))
           ·show TOK _ _ _ _ (if _ then _ else _)
            rw [if_pos g0]
            have hne : (pcM x.1.m x.2.e).ar ≠ [] := by unfold pcM; simp
            have hnd : [3, 4, 5, b].Nodup := by simp; omega
            have e4 : ownV b (pcM x.1.m x.2.e).ar = .slice (some ⟨b, 0, none⟩) (pcM x.1.m x.2.e).ar.length U := by cases hq : (pcM x.1.m x.2.e).ar with | nil => exact absurd hq hne | cons a l => rfl
            have e5 : ownT 23 48 (pcM x.1.m x.2.e).ar = 48 := by cases hq : (pcM x.1.m x.2.e).ar with | nil => exact absurd hq hne | cons a l => rfl
            rw [← e4] at hF
            refine zAu (fun n => .tuple #[nmV (pcM x.1.m x.2.e) n (n + 1) (n + 2) (n + 3), .int .i64 0]) [3, 4, 5, b] (nmC (pcM x.1.m x.2.e)) hF (.cons _ _ _ _ (LtM.frz h2) (.cons _ _ _ _ (LtE.frz h3) .nil)) hnd (fun y hy => by simp only [List.mem_cons, List.not_mem_nil, or_false] at hy; rcases hy with rfl | rfl | rfl | rfl <;> first | exact hb2 | decide) rfl (fun i b' xs t hb hc => ?_)
             (fun n => .tuple _ _ (.cons _ _ _ _ (.agg _ _ (.cons _ _ _ _ (.plain _ rfl) (.cons _ _ _ _ (.plain _ rfl) (.cons _ _ _ _ (zIr _ (zAh (i := 0) hnd rfl)) (.cons _ _ _ _ (zIr _ (zAh (i := 1) hnd rfl)) (.cons _ _ _ _ (zIr _ (zAh (i := 2) hnd rfl)) (.cons _ _ _ _ (zIr _ (zAh (i := 3) hnd rfl)) .nil))))))) (.cons _ _ _ _ (.plain _ rfl) .nil)))
            match i, hb, hc with
            | 0, hb, hc => cases hb; cases hc; exact ⟨[], by rw [List.append_nil]; exact r1, zAc layQ.g layQ.plain _, .inl rfl⟩
            | 1, hb, hc => cases hb; cases hc; exact ⟨[], by rw [List.append_nil]; exact r2, zAc layR.g layR.plain _, .inl rfl⟩
            | 2, hb, hc => cases hb; cases hc; exact ⟨[], by rw [List.append_nil]; exact r3, zAc layR.g layR.plain _, .inl rfl⟩
            | 3, hb, hc => cases hb; cases hc; exact ⟨[], by rw [List.append_nil, e5]; exact r4, zAc layR.g layR.plain _, .inl rfl⟩
            | i + 4, hb, hc => simp at hb,
          uniq := fun x x' a H m ⟨h1, ⟨h2, h3⟩, _⟩ ⟨k1, ⟨k2, k3⟩, _⟩ => by
           rw [h1] at k1
           simp only [List.cons.injEq, and_true] at k1
           have e1 := LtM.uniq k1.1 h2 k2
           have e2 := LtE.uniq k1.2 h3 k3
           obtain ⟨a, b⟩ := x
           obtain ⟨a', b'⟩ := x'
           subst e1; subst e2; rfl,
          tr := fun x H n K => brK (decide (putF x.1.m x.2.e = 0)) (K (.ret (.tuple #[nmV (pcM x.1.m x.2.e) n (n + 1) (n + 2) (n + 3), .int .i64 0]) (layN H n (nmC (pcM x.1.m x.2.e))) (n + 4) [])) (K (.ret (.tuple #[.agg ⟨zM⟩, .int .i64 (putF x.1.m x.2.e)]) H n [])),
          trOk := fun x H n K h => by
           by_cases hv : putF x.1.m x.2.e = 0
           ·rw [decide_eq_true hv] at h; show K (if _ then _ else _); rw [if_pos hv]; exact h
           ·rw [decide_eq_false hv] at h; show K (if _ then _ else _); rw [if_neg hv]; exact h }
end Go.Proofs.Ytknpgjeclmadkaa
namespace Go.Proofs.Ytknpgjeclmadkaa
open Go Go.RowKit
end Go.Proofs.Ytknpgjeclmadkaa
namespace Go.Proofs.Ytknpgjeclmadkaa
open Go Go.RowKit
end Go.Proofs.Ytknpgjeclmadkaa
namespace Go.Proofs.Ytknpgjeclmadkaa
open Go Go.RowKit
noncomputable def tbEp5 : Tb Try.prog 0 := tbOf mixed [ct_rput16]
theorem ap8 {cs X : List Value} {n k : Nat} (hc : cs.length = n) (hx : oneL X = true) (hk : 0 < X.length) (hs : n + k ≤ 1000000) : (Nat.beq 0 0 && Nat.beq 5 5 && (n * (Try.prog.types[5]).size).ble cs.length && oneL X && decide ((n + k) * (Try.prog.types[5]).bytes ≤ 140737488355328) && decide (n + k ≤ 9223372036854775807) && cs.length.blt (0 + n * (Try.prog.types[5]).size + X.length)) = true := by
 have hz : (Try.prog.types[5]).size = 1 := by kernel_rfl
 have hby : (Try.prog.types[5]).bytes = 1 := by kernel_rfl
 simp only [Bool.and_eq_true, decide_eq_true_eq]
 refine ⟨⟨⟨⟨⟨⟨rfl, rfl⟩, Nat.ble_eq_true_of_le ?_⟩, hx⟩, ?_⟩, ?_⟩, Nat.ble_eq_true_of_le ?_⟩
 ·rw [hz]; omega
 ·rw [hby]; omega
 ·omega
 ·rw [hz]; show _ ≤ 0 + n * 1 + X.length; omega
theorem tk8 {cs : List Value} {n : Nat} (h : cs.length = n) : cs.take (n * (Try.prog.types[5]).size) = cs := by
 rw [show (Try.prog.types[5]).size = 1 by kernel_rfl, Nat.mul_one, List.take_of_length_le (by omega)]
theorem byL (l : Bl) : (l.map byV).length = l.length := by simp
theorem tk2 (v : Nat) : (((by2 v).map byV).drop 0).take (2 * (Try.prog.types[5]).size) = (by2 v).map byV := by rw [List.drop_zero]; exact tk8 rfl
theorem one8 (l : Bl) : oneL (l.map byV) = true := by simp only [oneL, List.all_eq_true, List.mem_map]; rintro _ ⟨x, _, rfl⟩; rfl
def dtS (l : List OpX) : Nat → (Nat → Option Value) → Fs
 | 0, f => ⟨slots 6 [(0, trO l), (3, .slice none 0 0), (4, .int .i64 0)] f, heap 0 [], 0, [], []⟩
 | i + 1, f => ⟨slots 6 [(0, trO l), (3, .slice (some ⟨0, 0, none⟩) (dataO (l.take (i + 1))).length U), (4, .int .i64 ((i + 1 : Nat) : Int))] f, heap 1 [(0, .cells ((dataO (l.take (i + 1))).map byV) 5)], 1, [], []⟩
theorem data_fn (l : List OpX) (hC : ∀ o ∈ l, 0 ≤ o.c ∧ o.c ≤ 65535) (hS : sumO l ≤ 65535) (hl : l.length ≤ 1000) : ∃ r, FnS Try.prog 0 37 [trO l] .e 0 r ∧ ∃ v H k wr, r = .ret v H k wr ∧ (l = [] ∧ v = .slice none 0 0 ∨ l ≠ [] ∧ v = .slice (some ⟨0, 0, none⟩) (dataO l).length U ∧ H.get 0 = some (.cells ((dataO l).map byV) 5)) := by
 have hz : (Try.prog.types[5]).size = 1 := by kernel_rfl
 have hby : (Try.prog.types[5]).bytes = 1 := by kernel_rfl
 refine zCe mixed tbEp5 [] Try.func37 (c := bodyOf Try.f37) (by kernel_rfl) ?_
 refine zAi (dtS l) (fun i => l.length - i) (fun i => i ≤ l.length) 0 (Nat.zero_le _) (rcq [] (d := 6) (d2 := 0) ⟨⟨_, rfl, zAd 8 rfl⟩, ⟨_, rfl, .snil _ _⟩, ⟨_, rfl, .int _ _⟩, trivial⟩ trivial .nil) ?_
 have hin : ∀ i : Nat, i < l.length → inI ((i : Nat) : Int) l.length = true := fun i hi => by simp [inI]; omega
 intro i f hi
 have hi : i ≤ l.length := hi
 cases i with
 | zero =>
  refine zAq tbEp5 [] 0 _ none mixed _ _ _ ?_
  refine ifK (fun h1 => ?_) (fun h1 => ?_)
  ·have h1 : 0 < l.length := by have h1 : ((0 : Nat) : Int) < (l.length : Int) := of_decide_eq_true h1; omega
   have hcr := hC l[0] (List.getElem_mem h1)
   have hsz : 4 + l[0].d.size ≤ 65535 := Nat.le_trans (zFz (List.getElem_mem h1)) hS
   refine ifK (fun _ => ?_) (fun h2 => absurd ((hin 0 h1).symm.trans h2) (by decide))
   refine Exists.intro l[0].c (Exists.intro l[0].d (And.intro (zAe layO h1) ?_))
   refine Exists.intro l[0].c (And.intro rfl ?_)
   refine ifK (fun _ => ?_) (fun h => absurd hcr (of_decide_eq_false h))
   refine ifK (fun _ => ?_) (fun h2 => absurd ((hin 0 h1).symm.trans h2) (by decide))
   refine Exists.intro l[0].c (Exists.intro l[0].d (And.intro (zAe layO h1) ?_))
   refine Exists.intro (l[0].d.size : Int) (And.intro rfl ?_)
   refine ifK (fun _ => ?_) (fun h => absurd (show (0 : Int) ≤ (l[0].d.size : Int) ∧ (l[0].d.size : Int) ≤ 65535 by omega) (of_decide_eq_false h))
   refine And.intro (by kernel_rfl) ?_
   refine ifK (fun _ => ?_) (fun h2 => absurd ((hin 0 h1).symm.trans h2) (by decide))
   refine Exists.intro l[0].c (Exists.intro l[0].d (And.intro (zAe layO h1) ?_))
   have hone : dataO (l.take (0 + 1)) = optB l[0] := by rw [zGj h1]; rfl
   have hlen : (dataO (l.take (0 + 1))).length = 2 + 2 + l[0].d.data.toList.length := by rw [hone, zLf, Array.length_toList]; show 4 + l[0].d.data.size = _; omega
   refine ifK (fun h3 => ?_) (fun h3 => ?_)
   ·have h3 : l[0].d.data.toList = [] := List.eq_nil_of_length_eq_zero (Nat.eq_of_beq_eq_true h3)
    exact ⟨0 + 1, h1, by show l.length - (0 + 1) < l.length - 0; omega, rcq [3] ⟨⟨_, rfl, zAd 8 rfl⟩, ⟨_, rfl, (by show RV _ (.slice _ (2 + 2) U) (.slice _ (dataO (l.take (0 + 1))).length U); rw [hlen, h3]; exact .sl _ _ _ _ _ rfl)⟩, zAa rfl rfl, trivial⟩ ⟨⟨by decide, _, rfl, zDs (by rw [hone]; unfold optB; rw [h3]; rfl) (zCb _)⟩, trivial⟩ .nil⟩
   ·have h3 : l[0].d.data.toList.length ≠ 0 := fun e => by rw [show (l[0].d.data.toList.length).beq 0 = true by rw [e]; rfl] at h3; cases h3
    have hd9 : l[0].d.data.toList.length ≤ 65531 := by rw [Array.length_toList]; show l[0].d.size ≤ _; omega
    refine And.intro (ap8 (n := 2 + 2) (by kernel_rfl) (one8 _) (by rw [List.length_map]; omega) (by omega)) ?_
    exact ⟨0 + 1, h1, by show l.length - (0 + 1) < l.length - 0; omega, rcq [4] ⟨⟨_, rfl, zAd 8 rfl⟩, ⟨_, rfl, (by show RV _ (.slice _ (2 + 2 + l[0].d.data.toList.length) U) (.slice _ (dataO (l.take (0 + 1))).length U); rw [hlen]; exact .sl _ _ _ _ _ rfl)⟩, zAa rfl rfl, trivial⟩ ⟨⟨by decide, _, rfl, zDs (by rw [hone]; unfold optB; rw [List.map_append, List.map_append, ← List.append_assoc]; rfl) (zCb _)⟩, trivial⟩ .nil⟩
  ·have h1 : ¬ 0 < l.length := by have h1 : ¬ ((0 : Nat) : Int) < (l.length : Int) := of_decide_eq_false h1; omega
   have hl0 : l = [] := List.eq_nil_of_length_eq_zero (by omega)
   refine And.intro rfl (zAn (rcq [] (d := 6) (d2 := 0) (lv := [(3, .slice none 0 0)]) (bs := []) (W := []) (m := 0) (df := []) ⟨⟨_, rfl, .snil _ _⟩, trivial⟩ trivial .nil) (fun f => ?_))
   exact ⟨_, _, _, _, rfl, .inl ⟨hl0, rfl⟩⟩
 | succ i =>
  refine zAq tbEp5 [] 0 _ none mixed _ _ _ ?_
  refine ifK (fun h1 => ?_) (fun h1 => ?_)
  ·have h1 : i + 1 < l.length := by have h1 : ((i + 1 : Nat) : Int) < (l.length : Int) := of_decide_eq_true h1; omega
   have hcr := hC l[i + 1] (List.getElem_mem h1)
   have hsz : 4 + l[i + 1].d.size ≤ 65535 := Nat.le_trans (zFz (List.getElem_mem h1)) hS
   refine ifK (fun _ => ?_) (fun h2 => absurd ((hin _ h1).symm.trans h2) (by decide))
   refine Exists.intro l[i + 1].c (Exists.intro l[i + 1].d (And.intro (zAe layO h1) ?_))
   refine Exists.intro l[i + 1].c (And.intro rfl ?_)
   refine ifK (fun _ => ?_) (fun h => absurd hcr (of_decide_eq_false h))
   refine ifK (fun _ => ?_) (fun h2 => absurd ((hin _ h1).symm.trans h2) (by decide))
   refine Exists.intro l[i + 1].c (Exists.intro l[i + 1].d (And.intro (zAe layO h1) ?_))
   refine Exists.intro (l[i + 1].d.size : Int) (And.intro rfl ?_)
   refine ifK (fun _ => ?_) (fun h => absurd (show (0 : Int) ≤ (l[i + 1].d.size : Int) ∧ (l[i + 1].d.size : Int) ≤ 65535 by omega) (of_decide_eq_false h))
   have hstep := zGj h1
   have hk9 : (dataO (l.take (i + 1))).length ≤ 65535 := by rw [zDw]; exact Nat.le_trans (zLp _) hS
   have hd9 : l[i + 1].d.data.toList.length ≤ 65531 := by rw [Array.length_toList]; show l[i + 1].d.size ≤ _; omega
   have hR : dataO (l.take (i + 1 + 1)) = (dataO (l.take (i + 1)) ++ (by2 l[i + 1].c.toNat ++ by2 l[i + 1].d.size)) ++ l[i + 1].d.data.toList := by rw [hstep]; unfold optB; simp only [List.append_assoc]
   have hlen : (dataO (l.take (i + 1 + 1))).length = (dataO (l.take (i + 1))).length + 2 + 2 + l[i + 1].d.data.toList.length := by rw [hstep, List.length_append, zLf]; have : l[i + 1].d.data.toList.length = l[i + 1].d.size := Array.length_toList; omega
   refine And.intro (ap8 (byL _) (by rw [tk2]; exact one8 _) (by rw [tk2]; exact Nat.zero_lt_succ _) (by omega)) ?_
   have hL1 : (((dataO (l.take (i + 1))).map byV).take ((dataO (l.take (i + 1))).length * (Try.prog.types[5]).size) ++ (((by2 l[i + 1].c.toNat).map byV).drop 0).take (2 * (Try.prog.types[5]).size)) = (dataO (l.take (i + 1)) ++ by2 l[i + 1].c.toNat).map byV := by rw [tk8 (byL _), tk2, List.map_append]
   refine And.intro (ap8 (by rw [hL1, byL, List.length_append]; rfl) (by rw [tk2]; exact one8 _) (by rw [tk2]; exact Nat.zero_lt_succ _) (by omega)) ?_
   have hL2 : ((((dataO (l.take (i + 1))).map byV).take ((dataO (l.take (i + 1))).length * (Try.prog.types[5]).size) ++ (((by2 l[i + 1].c.toNat).map byV).drop 0).take (2 * (Try.prog.types[5]).size)).take (((dataO (l.take (i + 1))).length + 2) * (Try.prog.types[5]).size) ++ (((by2 ((l[i + 1].d.size : Int)).toNat).map byV).drop 0).take (2 * (Try.prog.types[5]).size)) = (dataO (l.take (i + 1)) ++ (by2 l[i + 1].c.toNat ++ by2 l[i + 1].d.size)).map byV := by
    rw [hL1, tk8 (by rw [byL, List.length_append]; rfl), Int.toNat_natCast, tk2, ← List.map_append, List.append_assoc]
   refine ifK (fun _ => ?_) (fun h2 => absurd ((hin _ h1).symm.trans h2) (by decide))
   refine Exists.intro l[i + 1].c (Exists.intro l[i + 1].d (And.intro (zAe layO h1) ?_))
   refine ifK (fun h3 => ?_) (fun h3 => ?_)
   ·have h3 : l[i + 1].d.data.toList = [] := List.eq_nil_of_length_eq_zero (Nat.eq_of_beq_eq_true h3)
    exact ⟨i + 1 + 1, h1, by show l.length - (i + 1 + 1) < l.length - (i + 1); omega, rcq [4] ⟨⟨_, rfl, zAd 8 rfl⟩, ⟨_, rfl, (by show RV _ (.slice _ ((dataO (l.take (i + 1))).length + 2 + 2) U) (.slice _ (dataO (l.take (i + 1 + 1))).length U); rw [hlen, h3]; exact .sl _ _ _ _ _ rfl)⟩, zAa rfl (by rw [wrapN (by omega) (by omega)]; omega), trivial⟩ ⟨⟨by decide, _, rfl, zDs (by rw [hL2, hstep]; unfold optB; rw [h3, List.append_nil]) (zCb _)⟩, trivial⟩ .nil⟩
   ·have h3 : l[i + 1].d.data.toList.length ≠ 0 := fun e => by rw [show (l[i + 1].d.data.toList.length).beq 0 = true by rw [e]; rfl] at h3; cases h3
    refine And.intro (ap8 (by rw [hL2, byL, List.length_append, List.length_append]; rfl) (one8 _) (by rw [List.length_map]; omega) (by omega)) ?_
    exact ⟨i + 1 + 1, h1, by show l.length - (i + 1 + 1) < l.length - (i + 1); omega, rcq [5] ⟨⟨_, rfl, zAd 8 rfl⟩, ⟨_, rfl, (by show RV _ (.slice _ ((dataO (l.take (i + 1))).length + 2 + 2 + l[i + 1].d.data.toList.length) U) (.slice _ (dataO (l.take (i + 1 + 1))).length U); rw [hlen]; exact .sl _ _ _ _ _ rfl)⟩, zAa rfl (by rw [wrapN (by omega) (by omega)]; omega), trivial⟩ ⟨⟨by decide, _, rfl, zDs (by rw [hL2, tk8 (by rw [byL, List.length_append, List.length_append]; rfl), hR]; exact (List.map_append ..).symm) (zCb _)⟩, trivial⟩ .nil⟩
  ·have h1 : ¬ i + 1 < l.length := by have h1 : ¬ ((i + 1 : Nat) : Int) < (l.length : Int) := of_decide_eq_false h1; omega
   have hil : i + 1 = l.length := by omega
   have e1 : dataO (l.take (i + 1)) = dataO l := by rw [hil, List.take_length]
   refine And.intro rfl (zAn (rcq [0] (d := 6) (d2 := 1) (lv := [(3, .slice (some ⟨0, 0, none⟩) (dataO l).length U)]) (bs := [(0, .cells ((dataO l).map byV) 5)]) (W := []) (m := 1) (df := []) ⟨⟨_, rfl, (by rw [e1]; exact .sl _ _ _ _ _ rfl)⟩, trivial⟩ ⟨⟨by decide, _, rfl, zDs (by rw [e1]) (zCb _)⟩, trivial⟩ .nil) (fun f => ?_))
   exact ⟨_, _, _, _, rfl, .inr ⟨(fun e => by rw [e] at hil; exact absurd hil (by simp)), rfl, rfl⟩⟩
end Go.Proofs.Ytknpgjeclmadkaa
namespace Go.Proofs.Ytknpgjeclmadkaa
open Go Go.RowKit
def rsO (m : MsT) (l : List RcX) (H : Tr AObj) (n : Nat) : Res := match l with
 | [] => .ret (.agg #[.int .i64 m.id, .int .i64 m.fl, ownV n m.q, trR m.strip.an, trR m.strip.ns, .slice none 0 0]) (layN H n [(m.q.flatMap layQ.g, 57)]) (n + 1) []
 | y :: r => .ret (.agg #[.int .i64 m.id, .int .i64 m.fl, ownV n m.q, trR m.strip.an, trR m.strip.ns, .slice (some ⟨n + 1, 0, none⟩) (r.length + 1) U]) (layN H n [(m.q.flatMap layQ.g, 57), ((y :: r).flatMap layR.g, 48)]) (n + 2) []
theorem own_sl {σ : Nat → Nat → Prop} {α : Type} {b b' : Nat} (l : List α) (h : σ b b') : NwV σ (.slice (some ⟨b, 0, none⟩) l.length (capO l)) (ownV b' l) := .sl _ _ _ _ _ h
noncomputable def zQt : Ct Try.prog 0 :=
 CtR.ct { f := 24, X := MsT, pre := fun m a _ _ => a = [m.v] ∧ m.fit 1000000, out := fun m H n => rsO m m.strip.ar H n,
          ok := fun m a H n ⟨h1, h2⟩ => by
           subst h1
           obtain ⟨r, hF, vq, va, H', k, wr, rfl, ha, b, rfl, hb, hg, hne⟩ := rstrip_s m h2
           show TOK _ _ _ _ (rsO m m.strip.ar H n)
           rcases ha with ⟨rfl, e⟩ | ⟨b', rfl, hb', hl, hg'⟩
           ·rw [e]
            refine zHb (fun n => .agg #[.int .i64 m.id, .int .i64 m.fl, ownV n m.q, trR m.strip.an, trR m.strip.ns, .slice none 0 0]) [b] [(m.q.flatMap layQ.g, 57)] hF rfl (by simp) (fun x hx => by simp at hx; subst hx; exact hb) rfl (fun i b2 xs t hb2 hc => ?_)
             (fun n => .agg _ _ (.cons _ _ _ _ (.clos _ rfl) (.cons _ _ _ _ (.clos _ rfl) (.cons _ _ _ _ (.nw _ _ (own_sl _ (zAh (i := 0) (by simp) rfl))) (.cons _ _ _ _ (.clos _ rfl) (.cons _ _ _ _ (.clos _ rfl) (.cons _ _ _ _ (.clos _ rfl) .nil)))))))
            match i, hb2, hc with
            | 0, hb2, hc => cases hb2; cases hc; exact ⟨[], by rw [List.append_nil]; exact hg, zAc layQ.g layQ.plain _, .inl rfl⟩
            | i + 1, hb2, hc => simp at hb2
           ·have hne := hne b' rfl
            cases hA : m.strip.ar with
            | nil => exact absurd hA hl
            | cons y r =>
             rw [hA] at hF hg'
             have hnd : [b, b'].Nodup := by simp; exact fun e => hne e.symm
             refine zHb (fun n => .agg #[.int .i64 m.id, .int .i64 m.fl, ownV n m.q, trR m.strip.an, trR m.strip.ns, .slice (some ⟨n + 1, 0, none⟩) (r.length + 1) U]) [b, b'] [(m.q.flatMap layQ.g, 57), ((y :: r).flatMap layR.g, 48)] hF rfl hnd (fun x hx => by simp only [List.mem_cons, List.not_mem_nil, or_false] at hx; rcases hx with rfl | rfl <;> assumption) rfl (fun i b2 xs t hb2 hc => ?_)
              (fun n => .agg _ _ (.cons _ _ _ _ (.clos _ rfl) (.cons _ _ _ _ (.clos _ rfl) (.cons _ _ _ _ (.nw _ _ (own_sl _ (zAh (i := 0) hnd rfl))) (.cons _ _ _ _ (.clos _ rfl) (.cons _ _ _ _ (.clos _ rfl) (.cons _ _ _ _ (.nw _ _ (.sl _ _ _ _ _ (zAh (i := 1) hnd rfl))) .nil)))))))
             match i, hb2, hc with
             | 0, hb2, hc => cases hb2; cases hc; exact ⟨[], by rw [List.append_nil]; exact hg, zAc layQ.g layQ.plain _, .inl rfl⟩
             | 1, hb2, hc => cases hb2; cases hc; exact ⟨[], by rw [List.append_nil]; exact hg', zAc layR.g layR.plain _, .inl rfl⟩
             | i + 2, hb2, hc => simp at hb2,
          uniq := fun x y a H n ⟨h1, _⟩ ⟨k1, _⟩ => by rw [h1] at k1; rw [ms1_inj k1],
          tr := fun m H n K => (m.strip.ar = [] → K (rsO m [] H n)) ∧ ∀ y r, m.strip.ar = y :: r → K (rsO m (y :: r) H n),
          trOk := fun m H n K h => by
           show K (rsO m m.strip.ar H n)
           cases e : m.strip.ar with
           | nil => exact h.1 e
           | cons y r => exact h.2 y r e }
noncomputable def ct_data : Ct Try.prog 0 :=
 CtR.ct { f := 37, X := List OpX, pre := fun l a _ _ => a = [trO l] ∧ (∀ o ∈ l, 0 ≤ o.c ∧ o.c ≤ 65535) ∧ sumO l ≤ 65535 ∧ l.length ≤ 1000,
          out := fun l H n => match l with | [] => .ret (.slice none 0 0) H n [] | y :: r => .ret (.slice (some ⟨n, 0, none⟩) (dataO (y :: r)).length U) (layN H n [((dataO (y :: r)).map byV, 5)]) (n + 1) [],
          ok := fun l a H n ⟨h1, h2, h3, h4⟩ => by
           subst h1
           obtain ⟨r, hF, v, H', k, wr, rfl, ⟨rfl, rfl⟩ | ⟨hl, rfl, hg⟩⟩ := data_fn l h2 h3 h4
           ·exact zDe hF (.cons _ _ _ _ (.one _ _ (.deep _ _ _ _ _ _ trivial)) .nil) (.one _ _ (.plain _ rfl))
           ·cases l with
            | nil => exact absurd rfl hl
            | cons y r =>
             refine zAu (fun n => .slice (some ⟨n, 0, none⟩) (dataO (y :: r)).length U) [0] [((dataO (y :: r)).map byV, 5)] hF (.cons _ _ _ _ (.one _ _ (.deep _ _ _ _ _ _ trivial)) .nil) (by simp) (fun x hx => by simp at hx; subst hx; decide) rfl (fun i b' xs e hb' hc => ?_) (fun n => .sl _ _ _ _ _ (zAh (i := 0) (by simp) rfl))
             match i, hb', hc with
             | 0, hb', hc => cases hb'; cases hc; exact ⟨[], by rw [List.append_nil]; exact hg, zCb _, .inl rfl⟩
             | i + 1, hb', hc => simp at hb',
          uniq := fun x y a H n ⟨h1, _⟩ ⟨k1, _⟩ => by
           rw [h1] at k1
           simp only [List.cons.injEq, and_true] at k1
           rw [zAr layO k1],
          tr := fun l H n K => (l = [] → K (.ret (.slice none 0 0) H n [])) ∧ ∀ y r, l = y :: r → K (.ret (.slice (some ⟨n, 0, none⟩) (dataO (y :: r)).length U) (layN H n [((dataO (y :: r)).map byV, 5)]) (n + 1) []),
          trOk := fun l H n K h => by
           cases l with
           | nil => exact h.1 rfl
           | cons y r => exact h.2 y r rfl }
end Go.Proofs.Ytknpgjeclmadkaa
namespace Go.Proofs.Ytknpgjeclmadkaa
open Go Go.RowKit
theorem chk_fine {e : EdX} (h : (chkE e != 0) = false) : (0 ≤ e.ext ∧ e.ext ≤ 127) ∧ 0 ≤ e.ver ∧ e.ver ≤ 255 := by
 have h : chkE e = 0 := by simpa using h
 unfold chkE at h
 split at h
 ·cases h
 rename_i h1
 have h1 : (fineE e && e.o.all okC) = true := by simpa using h1
 have h2 := (Bool.and_eq_true_iff.1 h1).1
 unfold fineE at h2
 simp only [Bool.and_eq_true, decide_eq_true_eq] at h2
 omega
theorem or_add {q b i : Nat} (hb : b < 2 ^ i) (hs : 2 ^ i * q + b < 4611686018427387904) : bitsI .or .i64 ((2 ^ i * q : Nat) : Int) (b : Int) = ((2 ^ i * q + b : Nat) : Int) := by
 have h1 : bitsI .or .i64 ((2 ^ i * q : Nat) : Int) (b : Int) = IntKind.i64.wrap (b64 ((2 ^ i * q : Nat) : Int) ||| b64 (b : Int)).toNat := rfl
 rw [h1, BitVec.toNat_or, b64_nat (by omega), b64_nat (by omega), ← Nat.two_pow_add_eq_or_of_lt hb, wrapN (by omega) (by omega)]
theorem shl24 {x : Nat} (h : x ≤ 127) : shlI .i64 (x : Int) 24 = ((2 ^ 24 * x : Nat) : Int) := by
 show IntKind.i64.wrap ((x : Int) * 2 ^ 24) = _
 rw [wrapN (by omega) (by omega)]; omega
theorem shl16 {x : Nat} (h : x ≤ 255) : shlI .i64 (x : Int) 16 = ((2 ^ 16 * x : Nat) : Int) := by
 show IntKind.i64.wrap ((x : Int) * 2 ^ 16) = _
 rw [wrapN (by omega) (by omega)]; omega
theorem ttl_eq {e : EdX} (h : (0 ≤ e.ext ∧ e.ext ≤ 127) ∧ 0 ≤ e.ver ∧ e.ver ≤ 255) : ttlE e = if e.dob then IntKind.i64.wrap (IntKind.i64.wrap (shlI .i64 e.ext 24 + shlI .i64 e.ver 16) + 32768) else IntKind.i64.wrap (shlI .i64 e.ext 24 + shlI .i64 e.ver 16) := by
 obtain ⟨⟨h1, h2⟩, h3, h4⟩ := h
 obtain ⟨x, hx⟩ := Int.eq_ofNat_of_zero_le h1
 obtain ⟨y, hy⟩ := Int.eq_ofNat_of_zero_le h3
 have e1 : bitsI .or .i64 (shlI .i64 e.ext 24) (shlI .i64 e.ver 16) = ((2 ^ 24 * x + 2 ^ 16 * y : Nat) : Int) := by
  rw [hx, hy, shl24 (by omega), shl16 (by omega), or_add (by omega) (by omega)]
 have e2 : IntKind.i64.wrap (shlI .i64 e.ext 24 + shlI .i64 e.ver 16) = ((2 ^ 24 * x + 2 ^ 16 * y : Nat) : Int) := by
  rw [hx, hy, shl24 (by omega), shl16 (by omega), wrapN (by omega) (by omega)]; omega
 have e3 : bitsI .or .i64 ((2 ^ 24 * x + 2 ^ 16 * y : Nat) : Int) 32768 = ((2 ^ 24 * x + 2 ^ 16 * y + 32768 : Nat) : Int) := by
  have := or_add (q := 256 * x + y) (b := 32768) (i := 16) (by decide) (by omega)
  rw [show 2 ^ 24 * x + 2 ^ 16 * y = 2 ^ 16 * (256 * x + y) by omega]
  exact this
 unfold ttlE
 rw [e1, e2, e3]
 split
 ·rw [wrapN (by omega) (by omega)]; omega
 ·rfl
def recEV (e : EdX) (t : Int) : List Value := [.string ⟨#[0]⟩, .int .i64 41, .int .i64 e.size, .int .i64 t, .string ⟨(dataO e.o).toArray⟩]
theorem zCr {e : EdX} {t : Int} (h : t = ttlE e) : recEV e t = layR.g (recE e) := by subst h; rfl
def rputV (m : MsT) (e : EdX) : Value := if putF m e = 0 then .tuple #[(pcM m e).v, .int .i64 0] else .tuple #[.agg ⟨zM⟩, .int .i64 (putF m e)]
noncomputable def tbEp6 : Tb Try.prog 0 := tbOf mixed [zPm, ct_rmanyT, ct_data, zQt]
theorem zDy {m : MsT} {e : EdX} {H : Tr AObj} {b n : Nat} {q : Nat} (hp : putF m e = 0) (hq : q < JJ) (hgq : H.get q = some (.cells (m.q.flatMap layQ.g) 57)) (hb : b < JJ) (hn : n = (pcM m e).ar.length) (hg : H.get b = some (.cells ((pcM m e).ar.flatMap layR.g) 48)) :
  Frz Try.prog 0 H (.tuple #[.agg #[.int .i64 m.id, .int .i64 m.fl, ownV q m.q, trR m.strip.an, trR m.strip.ns, .slice (some ⟨b, 0, none⟩) n U], .int .i64 0]) (rputV m e) := by
 have hz : (Try.prog.info? 48).map (·.size) = some 5 := by kernel_rfl
 have hzq : (Try.prog.info? 57).map (·.size) = some 3 := by kernel_rfl
 unfold rputV
 rw [if_pos hp, hn]
 have hqf : FrzP True Try.prog 0 H (ownV q m.q) (trQ m.q) := LtL.frz hzq (LtL.ownV layQ (e0 := 57) m.q hq (by rw [hgq]; unfold ownB; cases m.q <;> rfl))
 exact .tuple _ _ (.cons _ _ _ _ (.agg _ _ (.cons _ _ _ _ (.one _ _ (.plain _ rfl)) (.cons _ _ _ _ (.one _ _ (.plain _ rfl)) (.cons _ _ _ _ hqf (.cons _ _ _ _ (.one _ _ (.deep _ _ _ _ _ _ trivial)) (.cons _ _ _ _ (.one _ _ (.deep _ _ _ _ _ _ trivial)) (.cons _ _ _ _ (.one _ _ (zHq layR (pcM m e).ar hb hg hz rfl rfl)) .nil))))))) (.cons _ _ _ _ (.one _ _ (.plain _ rfl)) .nil))
theorem rput_fn (m : MsT) (e : EdX) (hf : m.fit 1000000) (hs : e.small) : ∃ r, FnS Try.prog 0 13 [m.v, e.v] .e 0 r ∧ ∃ v H k wr, r = .ret v H k wr ∧ Frz Try.prog 0 H v (rputV m e) := by
 obtain ⟨f1, f2, f3, f4⟩ := hf
 have hl9 : e.o.length ≤ 1000 := hs.1
 have hby : (Try.prog.types[48]).bytes ≤ 100 := by decide +kernel
 have hz : (Try.prog.types[48]).size = 5 := by kernel_rfl
 have c2 : cntO m.an ≤ 1000000 := Nat.le_trans (List.length_filter_le _ _) f2
 have c3 : cntO m.ns ≤ 1000000 := Nat.le_trans (List.length_filter_le _ _) f3
 have c4 : cntO m.ar ≤ 1000000 := Nat.le_trans (List.length_filter_le _ _) f4
 have w1 : IntKind.i64.wrap (IntKind.i64.wrap ((cntO m.an : Int) + (cntO m.ns : Int)) + (cntO m.ar : Int)) = ((cntO m.an + cntO m.ns + cntO m.ar : Nat) : Int) := by
  rw [wrapN (x := (cntO m.an : Int) + (cntO m.ns : Int)) (by omega) (by omega), wrapN (by omega) (by omega)]; omega
 refine zCe mixed tbEp6 [3] Try.func13 (c := bodyOf Try.f13) (by kernel_rfl) ?_
 refine Exists.intro e (And.intro ⟨rfl, hs⟩ ?_)
 refine ifK (fun h0 => ?_) (fun h0 => ?_)
 ·have h0 : (chkE e != 0) = true := h0
  have h0 : chkE e ≠ 0 := by simpa using h0
  have hp : putF m e = chkE e := by unfold putF; rw [if_pos h0]
  rw [show rputV m e = .tuple #[.agg ⟨zM⟩, .int .i64 (chkE e)] by unfold rputV; rw [if_neg (by rw [hp]; exact h0), hp]]
  exact ⟨_, _, _, _, rfl, .tuple _ _ (.cons _ _ _ _ (.one _ _ (.plain _ rfl)) (.cons _ _ _ _ (.one _ _ (.plain _ rfl)) .nil))⟩
 have h0 : (chkE e != 0) = false := h0
 have h00 : chkE e = 0 := by simpa using h0
 obtain ⟨hC, hS⟩ := chk_ok h0
 have hT := ttl_eq (chk_fine h0)
 refine And.intro (by kernel_rfl) ?_
 refine Exists.intro m.an (And.intro ⟨rfl, by show m.an.length ≤ _; omega⟩ ?_)
 refine Exists.intro m.ns (And.intro ⟨rfl, by show m.ns.length ≤ _; omega⟩ ?_)
 refine Exists.intro m.ar (And.intro ⟨rfl, by show m.ar.length ≤ _; omega⟩ ?_)
 refine ifK (fun h1 => ?_) (fun h1 => ?_)
 ·have h1 : decide (IntKind.i64.wrap (IntKind.i64.wrap ((cntO m.an : Int) + (cntO m.ns : Int)) + (cntO m.ar : Int)) > 0) = true := h1
  rw [w1] at h1
  have hp : putF m e = 7 := by unfold putF; rw [if_neg (by simp [h00]), if_pos (by have := of_decide_eq_true h1; omega)]
  rw [show rputV m e = .tuple #[.agg ⟨zM⟩, .int .i64 7] by unfold rputV; rw [if_neg (by rw [hp]; decide), hp]]
  exact ⟨_, _, _, _, rfl, .tuple _ _ (.cons _ _ _ _ (.one _ _ (.plain _ rfl)) (.cons _ _ _ _ (.one _ _ (.plain _ rfl)) .nil))⟩
 have h1 : decide (IntKind.i64.wrap (IntKind.i64.wrap ((cntO m.an : Int) + (cntO m.ns : Int)) + (cntO m.ar : Int)) > 0) = false := h1
 rw [w1] at h1
 have hp : putF m e = 0 := by unfold putF; rw [if_neg (by simp [h00]), if_neg (by have := of_decide_eq_false h1; omega)]
 refine And.intro (by kernel_rfl) ?_
 refine Exists.intro e.o (And.intro ⟨rfl, hC, hS, hl9⟩ ?_)
 refine And.intro (fun hO => ?_) (fun y0 l0 hO => ?_)
 ·have hO : e.o = [] := hO
  refine ifK (fun hd => ?_) (fun hd => ?_)
  ·have hd : e.dob = true := hd
   have ht : IntKind.i64.wrap (IntKind.i64.wrap (shlI .i64 e.ext 24 + shlI .i64 e.ver 16) + 32768) = ttlE e := by rw [hT, if_pos hd]
   refine Exists.intro (IntKind.i64.wrap (shlI .i64 e.ext 24 + shlI .i64 e.ver 16)) (And.intro rfl ?_)
   refine Exists.intro m (And.intro ⟨rfl, f1, f2, f3, f4⟩ ?_)
   refine And.intro (fun hA => ?_) (fun y l hA => ?_)
   ·have hA : m.strip.ar = [] := hA
    refine Exists.intro ⟨#[0]⟩ (Exists.intro 41 (Exists.intro e.size (Exists.intro (IntKind.i64.wrap (IntKind.i64.wrap (shlI .i64 e.ext 24 + shlI .i64 e.ver 16) + 32768)) (Exists.intro ⟨#[]⟩ (And.intro ⟨Nat.le_of_ble_eq_true (by kernel_rfl), rfl⟩ ?_)))))
    have hv : recEV e (IntKind.i64.wrap (IntKind.i64.wrap (shlI .i64 e.ext 24 + shlI .i64 e.ver 16) + 32768)) = layR.g (recE e) := zCr ht
    have e1 : (pcM m e).ar = [recE e] := by unfold pcM; rw [hA]; rfl
    have e2 : (pcM m e).ar.flatMap layR.g = recEV e (IntKind.i64.wrap (IntKind.i64.wrap (shlI .i64 e.ext 24 + shlI .i64 e.ver 16) + 32768)) := by rw [e1, hv]; exact List.append_nil _
    have e3 : (⟨#[]⟩ : ByteArray) = ⟨(dataO e.o).toArray⟩ := by rw [hO]; rfl
    exact ⟨_, _, _, _, rfl, zDy hp (q := 4) (b := 6) (by decide) (by kernel_rfl) (by decide) (by rw [e1]; rfl) (by rw [e2]; unfold recEV; rw [← e3]; kernel_rfl)⟩
   ·have hA : m.strip.ar = y :: l := hA
    refine Exists.intro ⟨#[0]⟩ (Exists.intro 41 (Exists.intro e.size (Exists.intro (IntKind.i64.wrap (IntKind.i64.wrap (shlI .i64 e.ext 24 + shlI .i64 e.ver 16) + 32768)) (Exists.intro ⟨#[]⟩ (And.intro ⟨Nat.le_of_ble_eq_true (by kernel_rfl), rfl⟩ ?_)))))
    have hv : recEV e (IntKind.i64.wrap (IntKind.i64.wrap (shlI .i64 e.ext 24 + shlI .i64 e.ver 16) + 32768)) = layR.g (recE e) := zCr ht
    have e3 : (⟨#[]⟩ : ByteArray) = ⟨(dataO e.o).toArray⟩ := by rw [hO]; rfl
    have hle : l.length + 1 ≤ 1000000 := by have : (m.strip.ar).length ≤ m.ar.length := List.length_filter_le _ _; rw [hA] at this; simp only [List.length_cons] at this; omega
    have hlen : ((y :: l).flatMap layR.g).length = (l.length + 1) * 5 := zAb layR.g 5 layR.len (y :: l)
    refine And.intro ?_ ?_
    ·have := Nat.mul_le_mul (show l.length + 1 + 1 ≤ 2000000 by omega) hby
     simp only [Bool.and_eq_true, decide_eq_true_eq]
     refine ⟨⟨⟨⟨⟨⟨rfl, rfl⟩, Nat.ble_eq_true_of_le ?_⟩, rfl⟩, ?_⟩, ?_⟩, Nat.ble_eq_true_of_le ?_⟩
     ·rw [hz, hlen]; exact Nat.le_refl _
     ·omega
     ·omega
     ·rw [hz, hlen]; show _ ≤ 0 + (l.length + 1) * 5 + 5; omega
    have hnew : (((y :: l).flatMap layR.g).take ((l.length + 1) * (Try.prog.types[48]).size) ++ recEV e (IntKind.i64.wrap (IntKind.i64.wrap (shlI .i64 e.ext 24 + shlI .i64 e.ver 16) + 32768))) = (pcM m e).ar.flatMap layR.g := by
     rw [hv]; unfold pcM
     rw [hz, List.take_of_length_le (by rw [hlen]; exact Nat.le_refl _), hA, List.flatMap_append]; simp
    have e2 : (pcM m e).ar.length = l.length + 1 + 1 := by unfold pcM; rw [hA]; simp
    exact ⟨_, _, _, _, rfl, zDy hp (q := 4) (b := 7) (by decide) (by kernel_rfl) (by decide) e2.symm (by rw [← hnew]; unfold recEV; rw [← e3]; kernel_rfl)⟩
  ·have hd : e.dob = false := hd
   have ht : IntKind.i64.wrap (shlI .i64 e.ext 24 + shlI .i64 e.ver 16) = ttlE e := by rw [hT, if_neg (by rw [show e.dob = false from hd]; simp)]
   refine Exists.intro m (And.intro ⟨rfl, f1, f2, f3, f4⟩ ?_)
   refine And.intro (fun hA => ?_) (fun y l hA => ?_)
   ·have hA : m.strip.ar = [] := hA
    refine Exists.intro ⟨#[0]⟩ (Exists.intro 41 (Exists.intro e.size (Exists.intro (IntKind.i64.wrap (shlI .i64 e.ext 24 + shlI .i64 e.ver 16)) (Exists.intro ⟨#[]⟩ (And.intro ⟨Nat.le_of_ble_eq_true (by kernel_rfl), rfl⟩ ?_)))))
    have hv : recEV e (IntKind.i64.wrap (shlI .i64 e.ext 24 + shlI .i64 e.ver 16)) = layR.g (recE e) := zCr ht
    have e1 : (pcM m e).ar = [recE e] := by unfold pcM; rw [hA]; rfl
    have e2 : (pcM m e).ar.flatMap layR.g = recEV e (IntKind.i64.wrap (shlI .i64 e.ext 24 + shlI .i64 e.ver 16)) := by rw [e1, hv]; exact List.append_nil _
    have e3 : (⟨#[]⟩ : ByteArray) = ⟨(dataO e.o).toArray⟩ := by rw [hO]; rfl
    exact ⟨_, _, _, _, rfl, zDy hp (q := 4) (b := 6) (by decide) (by kernel_rfl) (by decide) (by rw [e1]; rfl) (by rw [e2]; unfold recEV; rw [← e3]; kernel_rfl)⟩
   ·have hA : m.strip.ar = y :: l := hA
    refine Exists.intro ⟨#[0]⟩ (Exists.intro 41 (Exists.intro e.size (Exists.intro (IntKind.i64.wrap (shlI .i64 e.ext 24 + shlI .i64 e.ver 16)) (Exists.intro ⟨#[]⟩ (And.intro ⟨Nat.le_of_ble_eq_true (by kernel_rfl), rfl⟩ ?_)))))
    have hv : recEV e (IntKind.i64.wrap (shlI .i64 e.ext 24 + shlI .i64 e.ver 16)) = layR.g (recE e) := zCr ht
    have e3 : (⟨#[]⟩ : ByteArray) = ⟨(dataO e.o).toArray⟩ := by rw [hO]; rfl
    have hle : l.length + 1 ≤ 1000000 := by have : (m.strip.ar).length ≤ m.ar.length := List.length_filter_le _ _; rw [hA] at this; simp only [List.length_cons] at this; omega
    have hlen : ((y :: l).flatMap layR.g).length = (l.length + 1) * 5 := zAb layR.g 5 layR.len (y :: l)
    refine And.intro ?_ ?_
    ·have := Nat.mul_le_mul (show l.length + 1 + 1 ≤ 2000000 by omega) hby
     simp only [Bool.and_eq_true, decide_eq_true_eq]
     refine ⟨⟨⟨⟨⟨⟨rfl, rfl⟩, Nat.ble_eq_true_of_le ?_⟩, rfl⟩, ?_⟩, ?_⟩, Nat.ble_eq_true_of_le ?_⟩
     ·rw [hz, hlen]; exact Nat.le_refl _
     ·omega
     ·omega
     ·rw [hz, hlen]; show _ ≤ 0 + (l.length + 1) * 5 + 5; omega
    have hnew : (((y :: l).flatMap layR.g).take ((l.length + 1) * (Try.prog.types[48]).size) ++ recEV e (IntKind.i64.wrap (shlI .i64 e.ext 24 + shlI .i64 e.ver 16))) = (pcM m e).ar.flatMap layR.g := by
     rw [hv]; unfold pcM
     rw [hz, List.take_of_length_le (by rw [hlen]; exact Nat.le_refl _), hA, List.flatMap_append]; simp
    have e2 : (pcM m e).ar.length = l.length + 1 + 1 := by unfold pcM; rw [hA]; simp
    exact ⟨_, _, _, _, rfl, zDy hp (q := 4) (b := 7) (by decide) (by kernel_rfl) (by decide) e2.symm (by rw [← hnew]; unfold recEV; rw [← e3]; kernel_rfl)⟩
 ·have hO : e.o = y0 :: l0 := hO
  have hd0 : (dataO (y0 :: l0)).length ≠ 0 := by rw [zDw]; show sumO l0 + (4 + _) ≠ 0; omega
  refine Exists.intro (dataO (y0 :: l0)) (And.intro (byte_src (by kernel_rfl) hd0) ?_)
  refine ifK (fun hd => ?_) (fun hd => ?_)
  ·have hd : e.dob = true := hd
   have ht : IntKind.i64.wrap (IntKind.i64.wrap (shlI .i64 e.ext 24 + shlI .i64 e.ver 16) + 32768) = ttlE e := by rw [hT, if_pos hd]
   refine Exists.intro m (And.intro ⟨rfl, f1, f2, f3, f4⟩ ?_)
   refine And.intro (fun hA => ?_) (fun y l hA => ?_)
   ·have hA : m.strip.ar = [] := hA
    have hv : recEV e (IntKind.i64.wrap (IntKind.i64.wrap (shlI .i64 e.ext 24 + shlI .i64 e.ver 16) + 32768)) = layR.g (recE e) := zCr ht
    have e1 : (pcM m e).ar = [recE e] := by unfold pcM; rw [hA]; rfl
    have e2 : (pcM m e).ar.flatMap layR.g = recEV e (IntKind.i64.wrap (IntKind.i64.wrap (shlI .i64 e.ext 24 + shlI .i64 e.ver 16) + 32768)) := by rw [e1, hv]; exact List.append_nil _
    have e3 : (⟨(dataO (y0 :: l0)).toArray⟩ : ByteArray) = ⟨(dataO e.o).toArray⟩ := by rw [hO]
    exact ⟨_, _, _, _, rfl, zDy hp (q := 5) (b := 7) (by decide) (by kernel_rfl) (by decide) (by rw [e1]; rfl) (by rw [e2]; unfold recEV; rw [← e3]; kernel_rfl)⟩
   ·have hA : m.strip.ar = y :: l := hA
    have hv : recEV e (IntKind.i64.wrap (IntKind.i64.wrap (shlI .i64 e.ext 24 + shlI .i64 e.ver 16) + 32768)) = layR.g (recE e) := zCr ht
    have e3 : (⟨(dataO (y0 :: l0)).toArray⟩ : ByteArray) = ⟨(dataO e.o).toArray⟩ := by rw [hO]
    have hle : l.length + 1 ≤ 1000000 := by have : (m.strip.ar).length ≤ m.ar.length := List.length_filter_le _ _; rw [hA] at this; simp only [List.length_cons] at this; omega
    have hlen : ((y :: l).flatMap layR.g).length = (l.length + 1) * 5 := zAb layR.g 5 layR.len (y :: l)
    refine And.intro ?_ ?_
    ·have := Nat.mul_le_mul (show l.length + 1 + 1 ≤ 2000000 by omega) hby
     simp only [Bool.and_eq_true, decide_eq_true_eq]
     refine ⟨⟨⟨⟨⟨⟨rfl, rfl⟩, Nat.ble_eq_true_of_le ?_⟩, rfl⟩, ?_⟩, ?_⟩, Nat.ble_eq_true_of_le ?_⟩
     ·rw [hz, hlen]; exact Nat.le_refl _
     ·omega
     ·omega
     ·rw [hz, hlen]; show _ ≤ 0 + (l.length + 1) * 5 + 5; omega
    have hnew : (((y :: l).flatMap layR.g).take ((l.length + 1) * (Try.prog.types[48]).size) ++ recEV e (IntKind.i64.wrap (IntKind.i64.wrap (shlI .i64 e.ext 24 + shlI .i64 e.ver 16) + 32768))) = (pcM m e).ar.flatMap layR.g := by
     rw [hv]; unfold pcM
     rw [hz, List.take_of_length_le (by rw [hlen]; exact Nat.le_refl _), hA, List.flatMap_append]; simp
    have e2 : (pcM m e).ar.length = l.length + 1 + 1 := by unfold pcM; rw [hA]; simp
    exact ⟨_, _, _, _, rfl, zDy hp (q := 5) (b := 8) (by decide) (by kernel_rfl) (by decide) e2.symm (by rw [← hnew]; unfold recEV; rw [← e3]; kernel_rfl)⟩
  ·have hd : e.dob = false := hd
   have ht : IntKind.i64.wrap (shlI .i64 e.ext 24 + shlI .i64 e.ver 16) = ttlE e := by rw [hT, if_neg (by rw [show e.dob = false from hd]; simp)]
   refine Exists.intro m (And.intro ⟨rfl, f1, f2, f3, f4⟩ ?_)
   refine And.intro (fun hA => ?_) (fun y l hA => ?_)
   ·have hA : m.strip.ar = [] := hA
    have hv : recEV e (IntKind.i64.wrap (shlI .i64 e.ext 24 + shlI .i64 e.ver 16)) = layR.g (recE e) := zCr ht
    have e1 : (pcM m e).ar = [recE e] := by unfold pcM; rw [hA]; rfl
    have e2 : (pcM m e).ar.flatMap layR.g = recEV e (IntKind.i64.wrap (shlI .i64 e.ext 24 + shlI .i64 e.ver 16)) := by rw [e1, hv]; exact List.append_nil _
    have e3 : (⟨(dataO (y0 :: l0)).toArray⟩ : ByteArray) = ⟨(dataO e.o).toArray⟩ := by rw [hO]
    exact ⟨_, _, _, _, rfl, zDy hp (q := 5) (b := 7) (by decide) (by kernel_rfl) (by decide) (by rw [e1]; rfl) (by rw [e2]; unfold recEV; rw [← e3]; kernel_rfl)⟩
   ·have hA : m.strip.ar = y :: l := hA
    have hv : recEV e (IntKind.i64.wrap (shlI .i64 e.ext 24 + shlI .i64 e.ver 16)) = layR.g (recE e) := zCr ht
    have e3 : (⟨(dataO (y0 :: l0)).toArray⟩ : ByteArray) = ⟨(dataO e.o).toArray⟩ := by rw [hO]
    have hle : l.length + 1 ≤ 1000000 := by have : (m.strip.ar).length ≤ m.ar.length := List.length_filter_le _ _; rw [hA] at this; simp only [List.length_cons] at this; omega
    have hlen : ((y :: l).flatMap layR.g).length = (l.length + 1) * 5 := zAb layR.g 5 layR.len (y :: l)
    refine And.intro ?_ ?_
    ·have := Nat.mul_le_mul (show l.length + 1 + 1 ≤ 2000000 by omega) hby
     simp only [Bool.and_eq_true, decide_eq_true_eq]
     refine ⟨⟨⟨⟨⟨⟨rfl, rfl⟩, Nat.ble_eq_true_of_le ?_⟩, rfl⟩, ?_⟩, ?_⟩, Nat.ble_eq_true_of_le ?_⟩
     ·rw [hz, hlen]; exact Nat.le_refl _
     ·omega
     ·omega
     ·rw [hz, hlen]; show _ ≤ 0 + (l.length + 1) * 5 + 5; omega
    have hnew : (((y :: l).flatMap layR.g).take ((l.length + 1) * (Try.prog.types[48]).size) ++ recEV e (IntKind.i64.wrap (shlI .i64 e.ext 24 + shlI .i64 e.ver 16))) = (pcM m e).ar.flatMap layR.g := by
     rw [hv]; unfold pcM
     rw [hz, List.take_of_length_le (by rw [hlen]; exact Nat.le_refl _), hA, List.flatMap_append]; simp
    have e2 : (pcM m e).ar.length = l.length + 1 + 1 := by unfold pcM; rw [hA]; simp
    exact ⟨_, _, _, _, rfl, zDy hp (q := 5) (b := 8) (by decide) (by kernel_rfl) (by decide) e2.symm (by rw [← hnew]; unfold recEV; rw [← e3]; kernel_rfl)⟩
end Go.Proofs.Ytknpgjeclmadkaa
namespace Go.Proofs.Ytknpgjeclmadkaa
open Go Go.Joins Go.ChangeShapes Go.WideShapes Go.RowKit Go.Deep
section
variable {H : Type} {enc : TypeId × Value → H} {w : World} {base : Nat} {spare : Nat → Bool} {held : Bool}
theorem trod_op {n : Nat} {cs : List Value} {y : DataW H × List MemPlace} (h : DataW.trod enc Try.prog w base spare held n 60 cs = some y) : ∃ x : OpX, cs = layO.g x := by
 obtain ⟨_, _, _, _, hl, _⟩ := DataW.trod_struct Try.underlying60 h
 have hl : cs.length = 2 := hl.trans (by kernel_rfl)
 have hf := zFl 8 60 [3, 9] n cs y (by kernel_rfl) h hl
 match cs, hl with
 | [c0, c1], _ =>
  obtain ⟨_, _, h0⟩ := hf 0 _ _ rfl rfl
  obtain ⟨_, _, h1⟩ := hf 1 _ _ rfl rfl
  obtain ⟨x0, rfl⟩ := zCl h0
  obtain ⟨x1, rfl⟩ := zLu h1
  exact ⟨⟨x0, x1⟩, rfl⟩
def edTypes : List TypeId := [3, 3, 3, 4, 26]
theorem bytes_o : Try.prog.bytesOf 60 = 24 := by kernel_rfl
theorem open_ednsT {r : Reach} {b0 : Nat} {v : Value} {d : DataW H} {p : List MemPlace} (hpos : 0 < w.heap.size) (hv : Value.okWide Try.prog w r b0 28 v) (h : DataW.Trod enc Try.prog w base spare held 28 v d p) (hw : ∀ n ∈ d.weights Try.prog 28, n ≤ reachBytes) :
  ∃ e : EdX, e.o.length ≤ 9223372036854775807 ∧ VR (Env.all w) e.v v := by
 obtain ⟨cs, rfl, hl, hf⟩ := zKc (ts := edTypes) Try.underlying28 (by kernel_rfl) (by kernel_rfl) (by kernel_rfl) hv h
 have h : ∀ (i : Nat) (u : TypeId) (c : Value), edTypes[i]? = some u → cs[i]? = some c → Cell.okWide Try.prog w r b0 u c ∧ ∃ k y, DataW.trod enc Try.prog w base spare held k u [c] = some y ∧ ∀ n ∈ y.1.weights Try.prog u, n ≤ reachBytes := fun i u c hu hc => by
  obtain ⟨q1, k, y, q2, q3⟩ := hf i u c hu hc
  exact ⟨q1, k, y, q2, fun n hn => hw n (q3 n hn)⟩
 match cs, hl with
 | [c0, c1, c2, c3, c4], _ =>
  obtain ⟨_, _, _, h0, _⟩ := h 0 _ _ rfl rfl
  obtain ⟨_, _, _, h1, _⟩ := h 1 _ _ rfl rfl
  obtain ⟨_, _, _, h2, _⟩ := h 2 _ _ rfl rfl
  obtain ⟨_, _, _, h3, _⟩ := h 3 _ _ rfl rfl
  obtain ⟨o4, _, _, h4, w4⟩ := h 4 _ _ rfl rfl
  obtain ⟨x0, rfl⟩ := zCl h0
  obtain ⟨x1, rfl⟩ := zCl h1
  obtain ⟨x2, rfl⟩ := zCl h2
  obtain ⟨x3, rfl⟩ := trod_o1 h3
  obtain ⟨q, g2, s2, e2⟩ := zCy layO Try.underlying26 (by kernel_rfl) (fun _ _ _ hy => trod_op hy) o4 h4 hpos w4
  have hR : reachBytes = 140737488351232 := by decide
  have s2 : q.l.length * 24 ≤ reachBytes := bytes_o ▸ s2
  exact ⟨⟨x0, x1, x2, x3, q.l⟩, by show q.l.length ≤ _; omega,
   .agg _ _ (.cons _ _ _ _ (.int _ _) (.cons _ _ _ _ (.int _ _) (.cons _ _ _ _ (.int _ _) (.cons _ _ _ _ (.bool _) (.cons _ _ _ _ (zDb layO g2 e2) .nil)))))⟩
end
end Go.Proofs.Ytknpgjeclmadkaa
namespace Go.Proofs.Ytknpgjeclmadkaa
open Go Go.RowKit
def nmL (m : MsT) (b1 b2 b3 b4 : Nat) : LtM := ⟨m, ownV b1 m.q, ownV b2 m.an, ownV b3 m.ns, ownV b4 m.ar⟩
def nmAt (m : MsT) (b1 b2 b3 b4 : Nat) (H : Tr AObj) : Prop := H.get b1 = some (ownB layQ 25 m.q) ∧ H.get b2 = some (ownB layR 23 m.an) ∧ H.get b3 = some (ownB layR 23 m.ns) ∧ H.get b4 = some (ownB layR 23 m.ar)
theorem nmL_at {m : MsT} {b1 b2 b3 b4 : Nat} {H : Tr AObj} (hJ : b1 < JJ ∧ b2 < JJ ∧ b3 < JJ ∧ b4 < JJ) (h : nmAt m b1 b2 b3 b4 H) : (nmL m b1 b2 b3 b4).at H :=
 ⟨.ownV layQ _ hJ.1 h.1, .ownV layR _ hJ.2.1 h.2.1, .ownV layR _ hJ.2.2.1 h.2.2.1, .ownV layR _ hJ.2.2.2 h.2.2.2⟩
end Go.Proofs.Ytknpgjeclmadkaa
namespace Go.Proofs.Ytknpgjeclmadkaa
open Go Go.RowKit
def rputT (x : MsT × EdX) (F : Value → Prop) : Prop := brK (decide (putF x.1 x.2 = 0)) (F (.tuple #[(pcM x.1 x.2).v, .int .i64 0])) (F (.tuple #[.agg ⟨zM⟩, .int .i64 (putF x.1 x.2)]))
noncomputable def ct_rputT : Ct Try.prog 0 := CtR.tree 13 (MsT × EdX) (fun x => [x.1.v, x.2.v]) (fun x => x.1.fit 1000000 ∧ x.2.small) (fun x => rputV x.1 x.2) (fun a b h => by simp only [List.cons.injEq, and_true] at h; exact Prod.ext (MsT.v_inj h.1) (EdX.v_inj h.2)) (fun _ => rfl)
 (fun x hf => by obtain ⟨r, hF, v, H, k, wr, rfl, hz⟩ := rput_fn x.1 x.2 hf.1 hf.2; exact ⟨_, _, _, _, hF, hz⟩) rputT
 (fun x F h => by
  unfold rputT at h
  show F (rputV x.1 x.2)
  unfold rputV
  by_cases hv : putF x.1 x.2 = 0
  ·rw [decide_eq_true hv] at h; rw [if_pos hv]; exact h
  ·rw [decide_eq_false hv] at h; rw [if_neg hv]; exact h)
def nilM : List Value → Bool
 | [.agg x] => (match x.toList with | [_, _, .slice none _ _, _, _, _] => true | _ => false)
 | _ => false
noncomputable def ct_overZ : Ct Try.prog 0 := Ct.alt nilM (Ct.inl (tbOf mixed []) mixed [] 17 Try.f17 Try.func17 (bodyOf Try.f17) (by kernel_rfl)) ct_overN rfl
noncomputable def tbEp7 : Tb Try.prog 0 := tbOf mixed [Ct.yes 20 zLy, ct_bigMsT, ct_bigET, ct_copyMT, ct_copyEN, ct_putL, ct_rputT, zMe, ct_chkL, zPm, ct_overZ, ct_keptML, ct_sameEL]
theorem ownB_same {α : Type} (L : Lay α) (l : List α) : ownB L L.t l = .cells (l.flatMap L.g) L.t := by unfold ownB; cases l <;> rfl
theorem small_of {e : EdX} {n y : Int} (hn : n ≤ 1000) (hy : y ≤ 1000000) (h : (e.o.any (bigO y) || decide ((e.o.length : Int) > n)) = false) : e.small := by
 obtain ⟨h1, h2⟩ := Bool.or_eq_false_iff.1 h
 have h2 := of_decide_eq_false h2
 refine ⟨by omega, fun o ho => ?_⟩
 have := List.any_eq_false.1 h1 o ho
 unfold bigO at this
 simp only [decide_eq_true_eq] at this
 omega
theorem puts_fn (m : MsT) (hf : m.fit 4398046511104) (e : EdX) (he : e.o.length ≤ 9223372036854775807) : ∃ r, FnS Try.prog 0 3 [m.v, e.v] .e 0 r ∧ ∃ H k wr, r = .ret (.bool true) H k wr := by
 refine zCe mixed tbEp7 [] Try.func3 (c := bodyOf Try.f3) (by kernel_rfl) ?_
 refine Exists.intro (m, 200, 66000) (And.intro ⟨rfl, ⟨by have := hf.1; show m.q.length ≤ _; omega, by have := hf.2.1; show m.an.length ≤ _; omega, by have := hf.2.2.1; show m.ns.length ≤ _; omega, by have := hf.2.2.2; show m.ar.length ≤ _; omega⟩⟩ ?_)
 refine ifK (fun g => ?_) (fun g => ?_)
 ·exact ⟨_, _, _, rfl⟩
 have g : m.big 200 66000 = false := g
 have hk : m.fit 1000000 := by obtain ⟨a, b, c, d⟩ := MsT.few_fit (k := 200) (by omega) hf g; exact ⟨by omega, by omega, by omega, by omega⟩
 have hk2 : m.fit 1048576 := by obtain ⟨a, b, c, d⟩ := hk; exact ⟨by omega, by omega, by omega, by omega⟩
 refine Exists.intro (e, 100, 66000) (And.intro ⟨rfl, he⟩ ?_)
 refine ifK (fun g2 => ?_) (fun g2 => ?_)
 ·exact ⟨_, _, _, rfl⟩
 have hs : e.small := small_of (n := 100) (y := 66000) (by decide) (by decide) g2
 have hl9 : e.o.length ≤ 1000000 := Nat.le_trans hs.1 (by decide)
 refine And.intro (by kernel_rfl) ?_
 refine Exists.intro m (And.intro ⟨rfl, hk2⟩ ?_)
 refine Exists.intro e (And.intro ⟨rfl, hl9⟩ ?_)
 have hkp : (pcM m e).fit 1000000 := by
  obtain ⟨a, b, c, d⟩ := MsT.few_fit (k := 200) (by omega) hf g
  have h1 : (m.an.filter nop).length ≤ m.an.length := List.length_filter_le _ _
  have h2 : (m.ns.filter nop).length ≤ m.ns.length := List.length_filter_le _ _
  have h3 : (m.ar.filter nop).length ≤ m.ar.length := List.length_filter_le _ _
  refine ⟨by show m.q.length ≤ _; omega, by show (m.an.filter nop).length ≤ _; omega, by show (m.ns.filter nop).length ≤ _; omega, ?_⟩
  show (m.ar.filter nop ++ [recE e]).length ≤ _
  rw [List.length_append]; simp only [List.length_cons, List.length_nil]; omega
 have at1 : ∀ H : Tr AObj, cpAt m 2 3 4 5 H → (cpL m 2 3 4 5).at H := fun H h => cpL_at hk2 (by decide) h
 have at2 : ∀ H : Tr AObj, H.get 6 = some (.cells (e.o.flatMap layO.g) 60) → LtE.at ⟨e, ownV 6 e.o⟩ H := fun H h => LtL.ownV layO (e0 := 60) e.o (by decide) (by rw [h]; exact congrArg some (ownB_same layO e.o).symm)
 refine Exists.intro (cpL m 2 3 4 5, ⟨e, ownV 6 e.o⟩) (And.intro ⟨rfl, ⟨at1 _ ⟨by kernel_rfl, by kernel_rfl, by kernel_rfl, by kernel_rfl⟩, at2 _ (by kernel_rfl)⟩, hk, hs⟩ ?_)
 refine ifK (fun hp => ?_) (fun hp => ?_)
 ·have hp : putF m e = 0 := of_decide_eq_true hp
  refine Exists.intro (m, e) (And.intro ⟨rfl, hk, hs⟩ ?_)
  refine ifK (fun _ => ?_) (fun h => absurd hp (of_decide_eq_false h))
  refine And.intro (by kernel_rfl) ?_
  refine Exists.intro (nmL (pcM m e) 9 10 11 12, (pcM m e).lt) (And.intro ⟨rfl, ⟨nmL_at (by decide) ⟨by kernel_rfl, by kernel_rfl, by kernel_rfl, by kernel_rfl⟩, MsT.lt_at _ _⟩, hkp⟩ ?_)
  refine ifK (fun _ => ?_) (fun h => absurd (show (pcM m e).same (pcM m e) = false from h) (by rw [MsT.same_refl]; simp))
  refine Exists.intro ⟨e, ownV 6 e.o⟩ (And.intro ⟨rfl, at2 _ (by kernel_rfl), hs⟩ ?_)
  refine Exists.intro e (And.intro ⟨rfl, hs⟩ ?_)
  refine Exists.intro ⟨pcM m e, 9, 10, 11, 12⟩ (And.intro ⟨rfl, ⟨by kernel_rfl, by kernel_rfl, by kernel_rfl, by kernel_rfl⟩, (show [9, 10, 11, 12].Nodup by decide), hkp⟩ ?_)
  refine ifK (fun _ => ?_) (fun h => absurd (show (chkE e == chkE e) = false from h) (by simp))
  refine Exists.intro (m, 2, 3, 4, 5) (And.intro ⟨rfl, ⟨by kernel_rfl, by kernel_rfl, by kernel_rfl, by kernel_rfl⟩, (show [2, 3, 4, 5].Nodup by decide), hk⟩ ?_)
  refine Exists.intro ⟨e, ownV 6 e.o⟩ (And.intro ⟨rfl, at2 _ (by kernel_rfl), Nat.le_trans hl9 (by decide)⟩ ?_)
  exact ⟨_, _, _, rfl⟩
 ·have hp : putF m e ≠ 0 := of_decide_eq_false hp
  refine Exists.intro (m, e) (And.intro ⟨rfl, hk, hs⟩ ?_)
  refine ifK (fun h => absurd (of_decide_eq_true h) hp) (fun _ => ?_)
  refine And.intro (by kernel_rfl) ?_
  refine Exists.intro ((⟨⟨0, 0, [], [], [], []⟩, .slice none 0 0, .slice none 0 0, .slice none 0 0, .slice none 0 0⟩ : LtM), (⟨⟨0, 0, [], [], [], []⟩, .slice none 0 0, .slice none 0 0, .slice none 0 0, .slice none 0 0⟩ : LtM)) (And.intro ⟨rfl, ⟨⟨.nil _ _, .nil _ _, .nil _ _, .nil _ _⟩, ⟨.nil _ _, .nil _ _, .nil _ _, .nil _ _⟩⟩, ⟨Nat.zero_le _, Nat.zero_le _, Nat.zero_le _, Nat.zero_le _⟩⟩ ?_)
  refine ifK (fun _ => ?_) (fun h => absurd (show (putF m e == putF m e) = false from h) (by simp))
  refine Exists.intro ⟨e, ownV 6 e.o⟩ (And.intro ⟨rfl, at2 _ (by kernel_rfl), hs⟩ ?_)
  refine Exists.intro e (And.intro ⟨rfl, hs⟩ ?_)
  refine ifK (fun _ => ?_) (fun h => absurd (show (chkE e == chkE e) = false from h) (by simp))
  refine Exists.intro (m, 2, 3, 4, 5) (And.intro ⟨rfl, ⟨by kernel_rfl, by kernel_rfl, by kernel_rfl, by kernel_rfl⟩, (show [2, 3, 4, 5].Nodup by decide), hk⟩ ?_)
  refine Exists.intro ⟨e, ownV 6 e.o⟩ (And.intro ⟨rfl, at2 _ (by kernel_rfl), Nat.le_trans hl9 (by decide)⟩ ?_)
  exact ⟨_, _, _, rfl⟩
end Go.Proofs.Ytknpgjeclmadkaa
