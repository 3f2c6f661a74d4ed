/- DERIVED. Parts. -/
import Derived.SizedLaws
import Derived.Test.YtcggcoijhdagnaaZ12
import Derived.Test.YtcggcoijhdagnaaZ13
import Derived.Test.YtcggcoijhdagnaaZ18
import Derived.Test.YtcggcoijhdagnaaZ19
import Derived.Test.YtcggcoijhdagnaaZ22
set_option maxRecDepth 1000000
set_option maxHeartbeats 32000000
namespace Go.Proofs.Ytcggcoijhdagnaa
section
open Go Go.Joins Go.ChangeShapes Go.WideShapes Go.RowKit Go.Deep
section
variable {H : Type} {enc : TypeId × Value -> H} {P : Program} {w : World} {base : Nat} {spare : Nat -> Bool} {held : Bool}
theorem zMs : ∀ (n : Nat) (t : TypeId) (ts : List TypeId) (m : Nat) (cs : List Value) (x : DataW H × List MemPlace), flatOK P n t ts = true -> DataW.trod enc P w base spare held m t cs = some x -> cs.length = ts.length -> ∀ (i : Nat) (u : TypeId) (v : Value), ts[i]? = some u -> cs[i]? = some v -> ∃ k y, DataW.trod enc P w base spare held k u [v] = some y /\ ∀ n ∈ y.1.weights P u, n ∈ x.1.weights P t
 | 0, _, _, _, _, _, h, _, _, _, _, _, _, _ => by cases h
 | n + 1, t, ts, m, cs, x, h, hx, hlen, i, u, v, hu, hv => by
  unfold flatOK at h
  split at h
  ·rename_i fs hs
   simp only [bA] at h
   obtain ⟨⟨h1, h2⟩, h3⟩ := h
   obtain ⟨xs, n', _, hxe, hl, hxl, hf⟩ := DataW.trod_struct hs hx
   have hi : i < ts.length := (gS.1 hu).1
   have h3 := aG.1 h3 i (List.mem_range.2 hi)
   obtain ⟨f, hfm, h4⟩ := List.any_eq_true.1 h3
   simp only [bA] at h4
   have ha := aE h4.1
   have hb : i < f.offset + P.cellsOf f.type := aE h4.2
   obtain ⟨j, hj⟩ := List.getElem?_of_mem hfm
   have hj' : fs[j]? = some f := by rw [<- Array.getElem?_toList]; exact hj
   have hjl : j < xs.length := by rw [hxl]; exact (gA.1 hj').1
   have hg := hf j f hj'
   rw [gG hjl] at hg
   have hk := aG.1 h2 f hfm
   obtain ⟨k, y, r1, r2⟩ := zMs n f.type _ n' _ _ hk hg (by simp only [aU, aM, hlen]) (i - f.offset) u v
    (by rw [List.getElem?_take_of_lt (by omega), List.getElem?_drop, show f.offset + (i - f.offset) = i by omega]; exact hu)
    (by rw [List.getElem?_take_of_lt (by omega), List.getElem?_drop, show f.offset + (i - f.offset) = i by omega]; exact hv)
   refine ⟨k, y, r1, fun q hq => ?_⟩
   rw [hxe]
   show q ∈ DataW.weights P t (.agg (xs.map (·.1)))
   unfold DataW.weights
   simp only [hs]
   exact DataW.weights_mem_each (j := j) (t := f.type) (d := (xs[j]'hjl).1) (by rw [List.getElem?_map, hj]; rfl) (by rw [List.getElem?_map, gG hjl]; rfl) q (r2 q hq)
  split at h
  ·rename_i u'
   have := aA h
   subst this
   have hc : cs.length = 1 := hlen
   match cs, hc with
   | [c], _ =>
    cases i with
    | zero =>
     simp only [List.getElem?_cons_zero, aP] at hu hv
     subst hu; subst hv
     exact ⟨m, x, hx, fun q hq => hq⟩
    | succ i => simp at hu
  cases h
theorem zXb {r : Reach} {b0 : Nat} {t : TypeId} {fs : Array Field} {ts : List TypeId} {v : Value} {d : DataW H} {p : List MemPlace} (hs : P.underlying t = some (.struct fs)) (ht : flatOK P 8 t ts = true) (hC : P.cellsOf t = ts.length) (hct : P.cellTypes P.depth t = some ts)
  (hv : Value.okWide P w r b0 t v) (h : DataW.Trod enc P w base spare held t v d p) :
  ∃ cs : List Value, v = .agg ⟨cs⟩ /\ cs.length = ts.length /\ ∀ (i : Nat) (u : TypeId) (c : Value), ts[i]? = some u -> cs[i]? = some c -> Cell.okWide P w r b0 u c /\ ∃ k y, DataW.trod enc P w base spare held k u [c] = some y /\ ∀ n ∈ y.1.weights P u, n ∈ d.weights P t := by
 simp only [Value.okWide, hs] at hv
 obtain ⟨⟨cs⟩, rfl, hsz, ts', h1, _, h2⟩ := hv
 rw [hct] at h1
 cases h1
 obtain ⟨fuel, hf⟩ := h
 have hl : cs.length = ts.length := by rw [<- hC]; exact hsz
 refine ⟨cs, rfl, hl, fun i u c hu hc => ⟨?_, ?_⟩⟩
 ·have hi : i < ts.length := (gS.1 hu).1
  obtain ⟨u', h3, h4⟩ := h2 i c (by simpa using hc)
  rw [Nat.mod_eq_of_lt hi, hu] at h3
  cases h3
  exact h4
 exact zMs 8 t ts fuel cs _ ht hf hl i u c hu hc
theorem vr_len {E : Env} {b o n c len cap : Nat} {a : Option Addr} (h : VR E (.slice (some ⟨b, o, none⟩) n c) (.slice a len cap)) : n <= len := by
 cases h <;> first | exact aJ _ | exact aH _
theorem zGq {α : Type} (L : Lay α) {r : Reach} {b0 : Nat} {t e : TypeId} {v : Value} {fuel R : Nat} {x : DataW H × List MemPlace} (ht : P.underlying t = some (.slice e)) (hC : P.cellsOf e = L.k)
  (hopen : ∀ n cs y, DataW.trod enc P w base spare held n e cs = some y -> ∃ x, cs = L.g x) (hv : Cell.okWide P w r b0 t v) (h : DataW.trod enc P w base spare held fuel t [v] = some x) (hpos : 0 < w.heap.size) (hw : ∀ n ∈ x.1.weights P t, n <= R) :
  ∃ y : WinL α, y.good L w /\ y.l.length * P.bytesOf e <= R /\ ∀ (E : Env) (k : Nat), E.dom k -> E.ρ k = y.b -> E.sh k = y.off -> VR E (y.sl k) v := by
 obtain ⟨y, h1, h2⟩ := open_winl L ht hC hopen hv h hpos
 refine ⟨y, h1, ?_, h2⟩
 have hvr := h2 ⟨fun _ => True, fun _ => y.b, fun _ => 0, fun _ => 0, fun _ => y.off, fun _ => False, fun _ => none⟩ 0 trivial rfl rfl
 rcases open_slice ht h with ⟨h0, _⟩ | ⟨a, len, cap, m, n, D, Pl, hcs, _, _, _, _, hx, _⟩
 ·simp only [aQ, and_true] at h0
  subst h0
  have : y.l.length = 0 := Nat.le_zero.1 (vr_len (b := 0) (o := 0) (c := y.c) hvr)
  rw [this, Nat.zero_mul]; exact aH _
 simp only [aQ, and_true] at hcs
 subst hcs
 have hle : y.l.length <= len := vr_len (b := 0) (o := 0) (c := y.c) hvr
 have hq := hw ((len + (m - len)) * P.bytesOf e) (by
  rw [hx]
  show _ ∈ DataW.weights P t (.slice _ _)
  unfold DataW.weights
  simp only [ht, aT, List.length_range]
  exact List.mem_cons_self ..)
 exact aW (Nat.mul_le_mul_right _ (by omega)) hq
end
section
variable {H : Type} {enc : TypeId × Value -> H} {w : World} {base : Nat} {spare : Nat -> Bool} {held : Bool}
theorem bytes_q : Try.prog.bytesOf 57 = 32 := by kernel_rfl
theorem zSf : Try.prog.bytesOf 69 = 56 := by kernel_rfl
theorem weigh {ts : List TypeId} {ds : List (DataW H)} (h : (DataW.weightsEach Try.prog ts ds).all (· <= reachBytes) = true) {j : Nat} {t : TypeId} {d : DataW H} (ht : ts[j]? = some t) (hd : ds[j]? = some d) : ∀ n ∈ d.weights Try.prog t, n <= reachBytes := fun n hn => by
 have := aG.1 h n (DataW.weights_mem_each ht hd n hn)
 exact oT this
end
end
section
open Go Go.Joins Go.ChangeShapes Go.WideShapes Go.RowKit Go.Deep
theorem zGt {α : Type} (L : Lay α) {w : World} {y : WinL α} (hg : y.good L w) {v : Value} (h : ∀ (E : Env) (k : Nat), E.dom k -> E.ρ k = y.b -> E.sh k = y.off -> VR E (y.sl k) v) : VR (Env.all w) (treeV L.k y.l.length (y.l.flatMap L.g)) v := by
 obtain ⟨g1, g2, g3, g4⟩ := hg
 have hvr : VR ⟨fun _ => True, fun _ => y.b, fun _ => 0, fun _ => 0, fun _ => y.off, fun _ => False, fun _ => none⟩ (.slice (some ⟨0, 0, none⟩) y.l.length y.c) v := h ⟨fun _ => True, fun _ => y.b, fun _ => 0, fun _ => 0, fun _ => y.off, fun _ => False, fun _ => none⟩ 0 trivial rfl rfl
 have hlen := zAe L.g L.k L.len y.l
 have hpl := zAc L.g L.plain y.l
 have cell : ∀ j, j < (y.l.flatMap L.g).length -> fzc (Env.all w).fz y.b (y.off + j) = some ((y.l.flatMap L.g).getD j undef) := fun j hj => by
  have := g2 j _ (gG hj)
  rw [List.getD_eq_getElem?_getD, gG hj, Option.getD_some, <- this]
  unfold fzc World.cell? Env.all
  rfl
 have dv : ∀ (j : Nat) (u : Value), (y.l.flatMap L.g)[j]? = some u -> DV (Env.all w).fz u ((y.l.flatMap L.g).getD j undef) := fun j u hj => by
  rw [List.getD_eq_getElem?_getD, hj, Option.getD_some]
  exact .plain _ (aG.1 hpl u (List.mem_of_getElem? hj))
 have hmx : maxLen = 9223372036854775807 := by decide
 obtain ⟨_, ⟨_, rfl⟩ | ⟨hU, _⟩ | ⟨h0, _, a', _, rfl⟩⟩ := hvr.slice_inv
 ·exact .deep _ _ _ _ _ _ _ (.tree L.k _ y.c y.b y.off _ _ (fun j => (y.l.flatMap L.g).getD j undef) hlen g3 g4 (.inl rfl) cell dv)
 ·have : U = 1180591620717411303424 := rfl
  omega
 rw [h0]
 have hn : y.l = [] := List.eq_nil_of_length_eq_zero h0
 rw [hn]
 exact .deep _ _ _ _ _ _ _ (.tree L.k 0 0 0 0 [] _ (fun _ => undef) (by simp) (aJ _) (aH _) (.inr ⟨rfl, rfl⟩) (fun j hj => by simp at hj) (fun j u hj => by simp at hj))
end
section
open Go Go.Joins Go.ChangeShapes Go.WideShapes Go.RowKit Go.Deep
section
variable {H : Type} {enc : TypeId × Value -> H} {w : World} {base : Nat} {spare : Nat -> Bool} {held : Bool}
theorem open_msT {r : Reach} {b0 : Nat} (hpos : 0 < w.heap.size) (cs : List Value) (hl : cs.length = 6) (h : ∀ (i : Nat) (u : TypeId) (c : Value), msTypes[i]? = some u -> cs[i]? = some c -> Cell.okWide Try.prog w r b0 u c /\ ∃ k y, DataW.trod enc Try.prog w base spare held k u [c] = some y /\ ∀ n ∈ y.1.weights Try.prog u, n <= reachBytes) :
  ∃ m : MsT, m.fit 4398046511104 /\ VL (Env.all w) m.cs cs := by
 match cs, hl with
 | [c0, c1, c2, c3, c4, c5], _ =>
  obtain ⟨_, _, _, h0, _⟩ := h 0 _ _ rfl rfl
  obtain ⟨_, _, _, h1, _⟩ := h 1 _ _ rfl rfl
  obtain ⟨o2, _, _, h2, w2⟩ := h 2 _ _ rfl rfl
  obtain ⟨o3, _, _, h3, w3⟩ := h 3 _ _ rfl rfl
  obtain ⟨o4, _, _, h4, w4⟩ := h 4 _ _ rfl rfl
  obtain ⟨o5, _, _, h5, w5⟩ := h 5 _ _ rfl rfl
  obtain ⟨x0, rfl⟩ := zHk h0
  obtain ⟨x1, rfl⟩ := zHk h1
  obtain ⟨q, g2, s2, e2⟩ := zGq layQ Try.underlying22 (by kernel_rfl) (fun _ _ _ hy => trod_qu hy) o2 h2 hpos w2
  obtain ⟨an, g3, s3, e3⟩ := zGq layR Try.underlying23 (by kernel_rfl) (fun _ _ _ hy => zTw hy) o3 h3 hpos w3
  obtain ⟨ns, g4, s4, e4⟩ := zGq layR Try.underlying23 (by kernel_rfl) (fun _ _ _ hy => zTw hy) o4 h4 hpos w4
  obtain ⟨ar, g5, s5, e5⟩ := zGq layR Try.underlying23 (by kernel_rfl) (fun _ _ _ hy => zTw hy) o5 h5 hpos w5
  have hR : reachBytes = 140737488351232 := by decide
  have s2 : q.l.length * 32 <= reachBytes := bytes_q ▸ s2
  have s3 : an.l.length * 56 <= reachBytes := zSf ▸ s3
  have s4 : ns.l.length * 56 <= reachBytes := zSf ▸ s4
  have s5 : ar.l.length * 56 <= reachBytes := zSf ▸ s5
  exact ⟨⟨x0, x1, q.l, an.l, ns.l, ar.l⟩, ⟨by show q.l.length <= _; omega, by show an.l.length <= _; omega, by show ns.l.length <= _; omega, by show ar.l.length <= _; omega⟩,
   .cons _ _ _ _ (.int _ _) (.cons _ _ _ _ (.int _ _) (.cons _ _ _ _ (zGt layQ g2 e2) (.cons _ _ _ _ (zGt layR g3 e3) (.cons _ _ _ _ (zGt layR g4 e4) (.cons _ _ _ _ (zGt layR g5 e5) .nil)))))⟩
theorem open_msgT {r : Reach} {b0 : Nat} {v : Value} {d : DataW H} {p : List MemPlace} (hpos : 0 < w.heap.size) (hv : Value.okWide Try.prog w r b0 25 v) (h : DataW.Trod enc Try.prog w base spare held 25 v d p) (hw : ∀ n ∈ d.weights Try.prog 25, n <= reachBytes) :
  ∃ m : MsT, m.fit 4398046511104 /\ VR (Env.all w) m.v v := by
 obtain ⟨cs, rfl, hl, hf⟩ := zXb (ts := msTypes) Try.underlying25 (by kernel_rfl) (by kernel_rfl) (by kernel_rfl) hv h
 obtain ⟨m, h1, h2⟩ := open_msT hpos cs hl (fun i u c hu hc => by
  obtain ⟨q1, k, y, q2, q3⟩ := hf i u c hu hc
  exact ⟨q1, k, y, q2, fun n hn => hw n (q3 n hn)⟩)
 exact ⟨m, h1, .agg _ _ h2⟩
end
theorem MsT.few {m : MsT} {n : Int} {k : Nat} (hk : n <= k) (hf : m.fit 4398046511104) {y : Int} (h : m.big n y = false) : m.q.length + m.an.length + m.ns.length + m.ar.length <= k := by
 obtain ⟨h1, h2, h3, h4⟩ := hf
 unfold MsT.big at h
 have h := (Bool.or_eq_false_iff.1 h).1
 have h := oF h
 unfold MsT.len at h
 rw [wrapM (x := (m.q.length : Int) + (m.an.length : Int)) (by omega) (by omega)] at h
 rw [wrapM (x := (m.q.length : Int) + (m.an.length : Int) + (m.ns.length : Int)) (by omega) (by omega)] at h
 rw [wrapM (by omega) (by omega)] at h
 omega
theorem MsT.few_fit {m : MsT} {n : Int} {k : Nat} (hk : n <= k) (hf : m.fit 4398046511104) {y : Int} (h : m.big n y = false) : m.fit k := by
 have := MsT.few hk hf h
 exact ⟨by omega, by omega, by omega, by omega⟩
end
section
open Go Go.RowKit
theorem MsT.big_ok {m : MsT} {n : Int} (h : m.big n 66000 = false) : m.okM := by
 unfold MsT.big at h
 simp only [Bool.or_eq_false_iff] at h
 obtain ⟨_, hq, ha, hn, hr⟩ := h
 have rok : ∀ (l : List RcX), l.any (bigR 66000) = false -> ∀ x ∈ l, x.ok = true := fun l hl x hx => by
  have := List.any_eq_false.1 hl x hx
  unfold bigR at this
  simp only [Bool.or_eq_true, dT, not_or] at this
  obtain ⟨h1, h2⟩ := this
  unfold RcX.ok
  rw [bL (by omega), bL (by omega)]; rfl
 refine ⟨fun x hx => ?_, rok _ ha, rok _ hn, rok _ hr⟩
 have := List.any_eq_false.1 hq x hx
 unfold bigQ at this
 simp only [dT] at this
 exact bL (by omega)
noncomputable def zWs : Ct Try.prog 0 := Ct.inl (tbOf mixed [ct_bigMsT]) mixed [] 10 Try.f10 Try.func10 (bodyOf Try.f10) (by kernel_rfl)
noncomputable def tbMw6 : Tb Try.prog 0 := tbOf mixed [Ct.yes 19 zPr, zWs, ct_copyMT, zSk, zQa, zKq, zJh, ct_sameE, ct_overB, ct_keptML]
theorem mwrites_fn (m : MsT) (hf : m.fit 4398046511104) : ∃ r, FnS Try.prog 0 3 [m.v] .e 0 r /\ ∃ H k wr, r = .ret (.bool true) H k wr := by
 refine zBh mixed tbMw6 [] Try.func3 (c := bodyOf Try.f3) (by kernel_rfl) ?_
 refine eI (m, 200, 66000) (aI ⟨rfl, ⟨by have := hf.1; show m.q.length <= _; omega, by have := hf.2.1; show m.an.length <= _; omega, by have := hf.2.2.1; show m.ns.length <= _; omega, by have := hf.2.2.2; show m.ar.length <= _; omega⟩⟩ ?_)
 refine ifK (fun g => ?_) (fun g => ?_)
 ·exact ⟨_, _, _, rfl⟩
 have g : m.big 200 66000 = false := g
 have hk : m.fit 1000 := by obtain ⟨a, b, c, d⟩ := MsT.few_fit (k := 200) (by omega) hf g; exact ⟨by omega, by omega, by omega, by omega⟩
 have hk1 : m.fit 1000000 := by obtain ⟨a, b, c, d⟩ := hk; exact ⟨by omega, by omega, by omega, by omega⟩
 have hk2 : m.fit 1048576 := by obtain ⟨a, b, c, d⟩ := hk; exact ⟨by omega, by omega, by omega, by omega⟩
 have hok : m.okM := MsT.big_ok g
 refine eI m (aI ⟨rfl, hk2⟩ ?_)
 have at1 : ∀ H : Tr AObj, cpAt m 2 3 4 5 H -> (cpL m 2 3 4 5).at H := fun H h => cpL_at hk2 (by decide) h
 obtain ⟨R, hR⟩ : ∃ R, m.wr = R := ⟨_, rfl⟩
 obtain ⟨e, o⟩ := R
 cases o with
 | nil =>
  refine eI (cpL m 2 3 4 5, e, []) (aI ⟨rfl, at1 _ ⟨by kernel_rfl, by kernel_rfl, by kernel_rfl, by kernel_rfl⟩, hok, hk, hR⟩ ?_)
  refine eI (m.lt, e, []) (aI ⟨rfl, m.lt_at _, hok, hk, hR⟩ ?_)
  refine aI (by kernel_rfl) ?_
  refine eI (cpL m 2 3 4 5) (aI ⟨rfl, at1 _ ⟨by kernel_rfl, by kernel_rfl, by kernel_rfl, by kernel_rfl⟩, hok⟩ ?_)
  refine eI m (aI ⟨rfl, hok, hk1⟩ ?_)
  refine ifK (fun _ => ?_) (fun h => ab (show (m.chk == m.chk) = false from h) (by simp))
  refine ifK (fun _ => ?_) (fun h => ab (show (e == e) = false from h) (by simp))
  refine eI (m, 2, 3, 4, 5) (aI ⟨rfl, ⟨by kernel_rfl, by kernel_rfl, by kernel_rfl, by kernel_rfl⟩, (show [2, 3, 4, 5].Nodup by decide), hk1⟩ ?_)
  exact ⟨_, _, _, rfl⟩
 | cons u us =>
  refine eI (cpL m 2 3 4 5, e, u :: us) (aI ⟨rfl, at1 _ ⟨by kernel_rfl, by kernel_rfl, by kernel_rfl, by kernel_rfl⟩, hok, hk, hR⟩ ?_)
  refine eI (m.lt, e, u :: us) (aI ⟨rfl, m.lt_at _, hok, hk, hR⟩ ?_)
  refine aI (by kernel_rfl) ?_
  refine eI (cpL m 2 3 4 5) (aI ⟨rfl, at1 _ ⟨by kernel_rfl, by kernel_rfl, by kernel_rfl, by kernel_rfl⟩, hok⟩ ?_)
  refine eI m (aI ⟨rfl, hok, hk1⟩ ?_)
  refine ifK (fun _ => ?_) (fun h => ab (show (m.chk == m.chk) = false from h) (by simp))
  refine aI ⟨u :: us, 7, 8, rfl, by kernel_rfl, by kernel_rfl⟩ ?_
  refine eI (⟨7, u :: us⟩ : OvX) (aI ⟨rfl, by kernel_rfl, aZ _ _⟩ ?_)
  refine ifK (fun _ => ?_) (fun h => ab (show (e == e) = false from h) (by simp))
  refine eI (m, 2, 3, 4, 5) (aI ⟨rfl, ⟨by kernel_rfl, by kernel_rfl, by kernel_rfl, by kernel_rfl⟩, (show [2, 3, 4, 5].Nodup by decide), hk1⟩ ?_)
  exact ⟨_, _, _, rfl⟩
end
end Go.Proofs.Ytcggcoijhdagnaa
