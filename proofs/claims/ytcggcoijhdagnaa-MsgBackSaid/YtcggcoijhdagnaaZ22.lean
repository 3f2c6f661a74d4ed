/- DERIVED. Parts. -/
import Derived.SizedLaws
import Derived.Test.YtcggcoijhdagnaaZ12
import Derived.Test.YtcggcoijhdagnaaZ13
import Derived.Test.YtcggcoijhdagnaaZ18
import Derived.Test.YtcggcoijhdagnaaZ20
import Derived.Test.YtcggcoijhdagnaaZ21
set_option maxRecDepth 1000000
set_option maxHeartbeats 32000000
namespace Go.Proofs.Ytcggcoijhdagnaa
section
open Go Go.Joins Go.ChangeShapes Go.WideShapes Go.RowKit Go.Deep
section
variable {H : Type} {enc : TypeId × Value -> H} {P : Program} {w : World} {base : Nat} {spare : Nat -> Bool} {held : Bool}
theorem zMz : ∀ (n : Nat) (t : TypeId) (ts : List TypeId) (m : Nat) (cs : List Value) (x : DataW H × List MemPlace), flatOK P n t ts = true -> DataW.trod enc P w base spare held m t cs = some x -> cs.length = ts.length -> ∀ (i : Nat) (u : TypeId) (v : Value), ts[i]? = some u -> cs[i]? = some v -> ∃ k y, DataW.trod enc P w base spare held k u [v] = some y /\ ∀ n ∈ y.1.weights P u, n ∈ x.1.weights P t
 | 0, _, _, _, _, _, h, _, _, _, _, _, _, _ => by cases h
 | n + 1, t, ts, m, cs, x, h, hx, hlen, i, u, v, hu, hv => by
  unfold flatOK at h
  split at h
  ·rename_i fs hs
   simp only [bA] at h
   obtain ⟨⟨h1, h2⟩, h3⟩ := h
   obtain ⟨xs, n', _, hxe, hl, hxl, hf⟩ := DataW.trod_struct hs hx
   have hi : i < ts.length := (gS.1 hu).1
   have h3 := aG.1 h3 i (List.mem_range.2 hi)
   obtain ⟨f, hfm, h4⟩ := List.any_eq_true.1 h3
   simp only [bA] at h4
   have ha := aE h4.1
   have hb : i < f.offset + P.cellsOf f.type := aE h4.2
   obtain ⟨j, hj⟩ := List.getElem?_of_mem hfm
   have hj' : fs[j]? = some f := by rw [<- Array.getElem?_toList]; exact hj
   have hjl : j < xs.length := by rw [hxl]; exact (gA.1 hj').1
   have hg := hf j f hj'
   rw [gG hjl] at hg
   have hk := aG.1 h2 f hfm
   obtain ⟨k, y, r1, r2⟩ := zMz n f.type _ n' _ _ hk hg (by simp only [aU, aM, hlen]) (i - f.offset) u v
    (by rw [List.getElem?_take_of_lt (by omega), List.getElem?_drop, show f.offset + (i - f.offset) = i by omega]; exact hu)
    (by rw [List.getElem?_take_of_lt (by omega), List.getElem?_drop, show f.offset + (i - f.offset) = i by omega]; exact hv)
   refine ⟨k, y, r1, fun q hq => ?_⟩
   rw [hxe]
   show q ∈ DataW.weights P t (.agg (xs.map (·.1)))
   unfold DataW.weights
   simp only [hs]
   exact DataW.weights_mem_each (j := j) (t := f.type) (d := (xs[j]'hjl).1) (by rw [List.getElem?_map, hj]; rfl) (by rw [List.getElem?_map, gG hjl]; rfl) q (r2 q hq)
  split at h
  ·rename_i u'
   have := aA h
   subst this
   have hc : cs.length = 1 := hlen
   match cs, hc with
   | [c], _ =>
    cases i with
    | zero =>
     simp only [List.getElem?_cons_zero, aP] at hu hv
     subst hu; subst hv
     exact ⟨m, x, hx, fun q hq => hq⟩
    | succ i => simp at hu
  cases h
theorem zXl {r : Reach} {b0 : Nat} {t : TypeId} {fs : Array Field} {ts : List TypeId} {v : Value} {d : DataW H} {p : List MemPlace} (hs : P.underlying t = some (.struct fs)) (ht : flatOK P 8 t ts = true) (hC : P.cellsOf t = ts.length) (hct : P.cellTypes P.depth t = some ts)
  (hv : Value.okWide P w r b0 t v) (h : DataW.Trod enc P w base spare held t v d p) :
  ∃ cs : List Value, v = .agg ⟨cs⟩ /\ cs.length = ts.length /\ ∀ (i : Nat) (u : TypeId) (c : Value), ts[i]? = some u -> cs[i]? = some c -> Cell.okWide P w r b0 u c /\ ∃ k y, DataW.trod enc P w base spare held k u [c] = some y /\ ∀ n ∈ y.1.weights P u, n ∈ d.weights P t := by
 simp only [Value.okWide, hs] at hv
 obtain ⟨⟨cs⟩, rfl, hsz, ts', h1, _, h2⟩ := hv
 rw [hct] at h1
 cases h1
 obtain ⟨fuel, hf⟩ := h
 have hl : cs.length = ts.length := by rw [<- hC]; exact hsz
 refine ⟨cs, rfl, hl, fun i u c hu hc => ⟨?_, ?_⟩⟩
 ·have hi : i < ts.length := (gS.1 hu).1
  obtain ⟨u', h3, h4⟩ := h2 i c (by simpa using hc)
  rw [Nat.mod_eq_of_lt hi, hu] at h3
  cases h3
  exact h4
 exact zMz 8 t ts fuel cs _ ht hf hl i u c hu hc
theorem vr_len {E : Env} {b o n c len cap : Nat} {a : Option Addr} (h : VR E (.slice (some ⟨b, o, none⟩) n c) (.slice a len cap)) : n <= len := by
 cases h <;> first | exact aJ _ | exact aH _
theorem zEg {α : Type} (L : Lay α) {r : Reach} {b0 : Nat} {t e : TypeId} {v : Value} {fuel R : Nat} {x : DataW H × List MemPlace} (ht : P.underlying t = some (.slice e)) (hC : P.cellsOf e = L.k)
  (hopen : ∀ n cs y, DataW.trod enc P w base spare held n e cs = some y -> ∃ x, cs = L.g x) (hv : Cell.okWide P w r b0 t v) (h : DataW.trod enc P w base spare held fuel t [v] = some x) (hpos : 0 < w.heap.size) (hw : ∀ n ∈ x.1.weights P t, n <= R) :
  ∃ y : WinL α, y.good L w /\ y.l.length * P.bytesOf e <= R /\ ∀ (E : Env) (k : Nat), E.dom k -> E.ρ k = y.b -> E.sh k = y.off -> VR E (y.sl k) v := by
 obtain ⟨y, h1, h2⟩ := open_winl L ht hC hopen hv h hpos
 refine ⟨y, h1, ?_, h2⟩
 have hvr := h2 ⟨fun _ => True, fun _ => y.b, fun _ => 0, fun _ => 0, fun _ => y.off, fun _ => False, fun _ => none⟩ 0 trivial rfl rfl
 rcases open_slice ht h with ⟨h0, _⟩ | ⟨a, len, cap, m, n, D, Pl, hcs, _, _, _, _, hx, _⟩
 ·simp only [aQ, and_true] at h0
  subst h0
  have : y.l.length = 0 := Nat.le_zero.1 (vr_len (b := 0) (o := 0) (c := y.c) hvr)
  rw [this, Nat.zero_mul]; exact aH _
 simp only [aQ, and_true] at hcs
 subst hcs
 have hle : y.l.length <= len := vr_len (b := 0) (o := 0) (c := y.c) hvr
 have hq := hw ((len + (m - len)) * P.bytesOf e) (by
  rw [hx]
  show _ ∈ DataW.weights P t (.slice _ _)
  unfold DataW.weights
  simp only [ht, aT, List.length_range]
  exact List.mem_cons_self ..)
 exact aW (Nat.mul_le_mul_right _ (by omega)) hq
end
section
variable {H : Type} {enc : TypeId × Value -> H} {w : World} {base : Nat} {spare : Nat -> Bool} {held : Bool}
theorem bytes_q : Try.prog.bytesOf 57 = 32 := by kernel_rfl
theorem zSn : Try.prog.bytesOf 69 = 56 := by kernel_rfl
theorem weigh {ts : List TypeId} {ds : List (DataW H)} (h : (DataW.weightsEach Try.prog ts ds).all (· <= reachBytes) = true) {j : Nat} {t : TypeId} {d : DataW H} (ht : ts[j]? = some t) (hd : ds[j]? = some d) : ∀ n ∈ d.weights Try.prog t, n <= reachBytes := fun n hn => by
 have := aG.1 h n (DataW.weights_mem_each ht hd n hn)
 exact oT this
end
end
section
open Go Go.Joins Go.ChangeShapes Go.WideShapes Go.RowKit Go.Deep
theorem zEl {α : Type} (L : Lay α) {w : World} {y : WinL α} (hg : y.good L w) {v : Value} (h : ∀ (E : Env) (k : Nat), E.dom k -> E.ρ k = y.b -> E.sh k = y.off -> VR E (y.sl k) v) : VR (Env.all w) (treeV L.k y.l.length (y.l.flatMap L.g)) v := by
 obtain ⟨g1, g2, g3, g4⟩ := hg
 have hvr : VR ⟨fun _ => True, fun _ => y.b, fun _ => 0, fun _ => 0, fun _ => y.off, fun _ => False, fun _ => none⟩ (.slice (some ⟨0, 0, none⟩) y.l.length y.c) v := h ⟨fun _ => True, fun _ => y.b, fun _ => 0, fun _ => 0, fun _ => y.off, fun _ => False, fun _ => none⟩ 0 trivial rfl rfl
 have hlen := zAg L.g L.k L.len y.l
 have hpl := zAe L.g L.plain y.l
 have cell : ∀ j, j < (y.l.flatMap L.g).length -> fzc (Env.all w).fz y.b (y.off + j) = some ((y.l.flatMap L.g).getD j undef) := fun j hj => by
  have := g2 j _ (gG hj)
  rw [List.getD_eq_getElem?_getD, gG hj, Option.getD_some, <- this]
  unfold fzc World.cell? Env.all
  rfl
 have dv : ∀ (j : Nat) (u : Value), (y.l.flatMap L.g)[j]? = some u -> DV (Env.all w).fz u ((y.l.flatMap L.g).getD j undef) := fun j u hj => by
  rw [List.getD_eq_getElem?_getD, hj, Option.getD_some]
  exact .plain _ (aG.1 hpl u (List.mem_of_getElem? hj))
 have hmx : maxLen = 9223372036854775807 := by decide
 obtain ⟨_, ⟨_, rfl⟩ | ⟨hU, _⟩ | ⟨h0, _, a', _, rfl⟩⟩ := hvr.slice_inv
 ·exact .deep _ _ _ _ _ _ _ (.tree L.k _ y.c y.b y.off _ _ (fun j => (y.l.flatMap L.g).getD j undef) hlen g3 g4 (.inl rfl) cell dv)
 ·have : U = 1180591620717411303424 := rfl
  omega
 rw [h0]
 have hn : y.l = [] := List.eq_nil_of_length_eq_zero h0
 rw [hn]
 exact .deep _ _ _ _ _ _ _ (.tree L.k 0 0 0 0 [] _ (fun _ => undef) (by simp) (aJ _) (aH _) (.inr ⟨rfl, rfl⟩) (fun j hj => by simp at hj) (fun j u hj => by simp at hj))
end
section
open Go Go.Joins Go.ChangeShapes Go.WideShapes Go.RowKit Go.Deep
section
variable {H : Type} {enc : TypeId × Value -> H} {w : World} {base : Nat} {spare : Nat -> Bool} {held : Bool}
theorem open_msT {r : Reach} {b0 : Nat} (hpos : 0 < w.heap.size) (cs : List Value) (hl : cs.length = 6) (h : ∀ (i : Nat) (u : TypeId) (c : Value), msTypes[i]? = some u -> cs[i]? = some c -> Cell.okWide Try.prog w r b0 u c /\ ∃ k y, DataW.trod enc Try.prog w base spare held k u [c] = some y /\ ∀ n ∈ y.1.weights Try.prog u, n <= reachBytes) :
  ∃ m : MsT, m.fit 4398046511104 /\ VL (Env.all w) m.cs cs := by
 match cs, hl with
 | [c0, c1, c2, c3, c4, c5], _ =>
  obtain ⟨_, _, _, h0, _⟩ := h 0 _ _ rfl rfl
  obtain ⟨_, _, _, h1, _⟩ := h 1 _ _ rfl rfl
  obtain ⟨o2, _, _, h2, w2⟩ := h 2 _ _ rfl rfl
  obtain ⟨o3, _, _, h3, w3⟩ := h 3 _ _ rfl rfl
  obtain ⟨o4, _, _, h4, w4⟩ := h 4 _ _ rfl rfl
  obtain ⟨o5, _, _, h5, w5⟩ := h 5 _ _ rfl rfl
  obtain ⟨x0, rfl⟩ := zHi h0
  obtain ⟨x1, rfl⟩ := zHi h1
  obtain ⟨q, g2, s2, e2⟩ := zEg layQ Try.underlying22 (by kernel_rfl) (fun _ _ _ hy => trod_qu hy) o2 h2 hpos w2
  obtain ⟨an, g3, s3, e3⟩ := zEg layR Try.underlying23 (by kernel_rfl) (fun _ _ _ hy => zUh hy) o3 h3 hpos w3
  obtain ⟨ns, g4, s4, e4⟩ := zEg layR Try.underlying23 (by kernel_rfl) (fun _ _ _ hy => zUh hy) o4 h4 hpos w4
  obtain ⟨ar, g5, s5, e5⟩ := zEg layR Try.underlying23 (by kernel_rfl) (fun _ _ _ hy => zUh hy) o5 h5 hpos w5
  have hR : reachBytes = 140737488351232 := by decide
  have s2 : q.l.length * 32 <= reachBytes := bytes_q ▸ s2
  have s3 : an.l.length * 56 <= reachBytes := zSn ▸ s3
  have s4 : ns.l.length * 56 <= reachBytes := zSn ▸ s4
  have s5 : ar.l.length * 56 <= reachBytes := zSn ▸ s5
  exact ⟨⟨x0, x1, q.l, an.l, ns.l, ar.l⟩, ⟨by show q.l.length <= _; omega, by show an.l.length <= _; omega, by show ns.l.length <= _; omega, by show ar.l.length <= _; omega⟩,
   .cons _ _ _ _ (.int _ _) (.cons _ _ _ _ (.int _ _) (.cons _ _ _ _ (zEl layQ g2 e2) (.cons _ _ _ _ (zEl layR g3 e3) (.cons _ _ _ _ (zEl layR g4 e4) (.cons _ _ _ _ (zEl layR g5 e5) .nil)))))⟩
theorem open_msgT {r : Reach} {b0 : Nat} {v : Value} {d : DataW H} {p : List MemPlace} (hpos : 0 < w.heap.size) (hv : Value.okWide Try.prog w r b0 25 v) (h : DataW.Trod enc Try.prog w base spare held 25 v d p) (hw : ∀ n ∈ d.weights Try.prog 25, n <= reachBytes) :
  ∃ m : MsT, m.fit 4398046511104 /\ VR (Env.all w) m.v v := by
 obtain ⟨cs, rfl, hl, hf⟩ := zXl (ts := msTypes) Try.underlying25 (by kernel_rfl) (by kernel_rfl) (by kernel_rfl) hv h
 obtain ⟨m, h1, h2⟩ := open_msT hpos cs hl (fun i u c hu hc => by
  obtain ⟨q1, k, y, q2, q3⟩ := hf i u c hu hc
  exact ⟨q1, k, y, q2, fun n hn => hw n (q3 n hn)⟩)
 exact ⟨m, h1, .agg _ _ h2⟩
end
theorem MsT.few {m : MsT} {n : Int} {k : Nat} (hk : n <= k) (hf : m.fit 4398046511104) {y : Int} (h : m.big n y = false) : m.q.length + m.an.length + m.ns.length + m.ar.length <= k := by
 obtain ⟨h1, h2, h3, h4⟩ := hf
 unfold MsT.big at h
 have h := (Bool.or_eq_false_iff.1 h).1
 have h := oF h
 unfold MsT.len at h
 rw [wrapM (x := (m.q.length : Int) + (m.an.length : Int)) (by omega) (by omega)] at h
 rw [wrapM (x := (m.q.length : Int) + (m.an.length : Int) + (m.ns.length : Int)) (by omega) (by omega)] at h
 rw [wrapM (by omega) (by omega)] at h
 omega
theorem MsT.few_fit {m : MsT} {n : Int} {k : Nat} (hk : n <= k) (hf : m.fit 4398046511104) {y : Int} (h : m.big n y = false) : m.fit k := by
 have := MsT.few hk hf h
 exact ⟨by omega, by omega, by omega, by omega⟩
end
section
open Go Go.RowKit
section
open Go.Joins Go.ChangeShapes Go.WideShapes Go.Deep
variable {H : Type} {enc : TypeId × Value -> H} {w : World} {base : Nat} {spare : Nat -> Bool} {held : Bool}
theorem bytes_yT : Try.prog.bytesOf 5 = 1 := by kernel_rfl
theorem open_bytesT {r : Reach} {b0 : Nat} {v : Value} {d : DataW H} {p : List MemPlace} (hpos : 0 < w.heap.size) (hv : Value.okWide Try.prog w r b0 28 v) (h : DataW.Trod enc Try.prog w base spare held 28 v d p) (hw : ∀ n ∈ d.weights Try.prog 28, n <= reachBytes) :
  ∃ l : Bl, l.length <= 140737488351232 /\ VR (Env.all w) (trB l) v := by
 obtain ⟨n, h⟩ := zMj Try.underlying28 hv h
 have hR : reachBytes = 140737488351232 := by decide
 obtain ⟨y, g, s, e⟩ := zEg layBy Try.underlying28 (by kernel_rfl) (fun _ cs _ hy => by
  obtain ⟨x, rfl, _, hw⟩ := DataW.trod_int Try.underlying5 hy
  obtain ⟨b, rfl⟩ := byte_of hw
  exact ⟨b, rfl⟩) (zTo Try.underlying28 hv) h hpos hw
 have s : y.l.length * 1 <= reachBytes := bytes_yT ▸ s
 exact ⟨y.l, by omega, zEl layBy g e⟩
end
end
section
open Go Go.RowKit
noncomputable def tbBm6 : Tb Try.prog 0 := tbOf mixed [Ct.yes 19 zPw, ct_bigMsT, zSs, zWy, ct_sameML, zKq, ct_pick, ct_copyBL, ct_headL]
theorem zM_fit : zM.fit 1000000 := ⟨aH _, aH _, aH _, aH _⟩
theorem zVc {m : MsT} (h : m.fit 1000) : m.fit 1000000 := by obtain ⟨a, b, c, d⟩ := h; exact ⟨by omega, by omega, by omega, by omega⟩
theorem zFy {m : MsT} {e : Int} {o : Bl} (h : m.wr = (e, o)) : (e = 0 /\ m.chk = 0 /\ ∃ s, mwF ⟨m.head, [], 0⟩ m.items = some s /\ o = s.out) \/ (e ≠ 0 /\ o = [] /\ (m.chk = 0 -> e = 3)) := by
 by_cases hc : m.chk = 0
 ·cases hs : mwF ⟨m.head, [], 0⟩ m.items with
  | none => rw [zFd hc hs] at h; simp only [Prod.mk.injEq] at h; obtain ⟨rfl, rfl⟩ := h; exact .inr ⟨by decide, rfl, fun _ => rfl⟩
  | some s => rw [wr_some hc hs] at h; simp only [Prod.mk.injEq] at h; obtain ⟨rfl, rfl⟩ := h; exact .inl ⟨rfl, hc, s, rfl, rfl⟩
 unfold MsT.wr at h
 rw [if_pos hc] at h
 simp only [Prod.mk.injEq] at h
 obtain ⟨rfl, rfl⟩ := h
 exact .inr ⟨hc, rfl, fun h => ab h hc⟩
theorem ap8b {cs X : List Value} {n k : Nat} (hc : cs.length = n) (hx : oneL X = true) (hk : 0 < X.length) (hs : n + k <= 1000000) : (Nat.beq 0 0 && Nat.beq 5 5 && (n * (Try.prog.types[5]).size).ble cs.length && oneL X && decide ((n + k) * (Try.prog.types[5]).bytes <= 140737488355328) && decide (n + k <= 9223372036854775807) && cs.length.blt (0 + n * (Try.prog.types[5]).size + X.length)) = true := by
 have hz : (Try.prog.types[5]).size = 1 := by kernel_rfl
 have hby : (Try.prog.types[5]).bytes = 1 := by kernel_rfl
 simp only [bA, dT]
 refine ⟨⟨⟨⟨⟨⟨rfl, rfl⟩, bL ?_⟩, hx⟩, ?_⟩, ?_⟩, bL ?_⟩
 ·rw [hz]; omega
 ·rw [hby]; omega
 ·omega
 rw [hz]; show _ <= 0 + n * 1 + X.length; omega
theorem tk8b {cs : List Value} {n : Nat} (h : cs.length = n) : cs.take (n * (Try.prog.types[5]).size) = cs := by
 rw [show (Try.prog.types[5]).size = 1 by kernel_rfl, aR, aD (by omega)]
theorem mback_fn (m : MsT) (B : Bl) (k : Int) (c : UInt8) (hf : m.fit 4398046511104) (hB : B.length <= 140737488351232) : ∃ r, FnS Try.prog 0 8 [m.v, trB B, .int .i64 k, byV c] .e 0 r /\ ∃ H k wr, r = .ret (.bool true) H k wr := by
 refine zBp mixed tbBm6 [] Try.func8 (c := bodyOf Try.f8) (by kernel_rfl) ?_
 refine eI (m, 200, 3000) (aI ⟨rfl, ⟨by have := hf.1; show m.q.length <= _; omega, by have := hf.2.1; show m.an.length <= _; omega, by have := hf.2.2.1; show m.ns.length <= _; omega, by have := hf.2.2.2; show m.ar.length <= _; omega⟩⟩ ?_)
 refine ifK (fun g => ?_) (fun g => ?_)
 ·exact ⟨_, _, _, rfl⟩
 refine ifK (fun g2 => ?_) (fun g2 => ?_)
 ·exact ⟨_, _, _, rfl⟩
 have g : m.big 200 3000 = false := g
 have hk : m.fit 1000 := by obtain ⟨a, b, c, d⟩ := MsT.few_fit (k := 200) (by omega) hf g; exact ⟨by omega, by omega, by omega, by omega⟩
 have hk1 : m.fit 1000000 := zVc hk
 have hok : m.okM := MsT.big_ok3 g
 have hB5 : B.length <= 5000 := by have g2 := oF g2; omega
 obtain ⟨R, hR⟩ : ∃ R, m.wr = R := ⟨_, rfl⟩
 obtain ⟨e, o⟩ := R
 cases o with
 | nil =>
  refine eI (m.lt, e, []) (aI ⟨rfl, m.lt_at _, hok, hk, hR⟩ ?_)
  have he : e ≠ 0 := by
   rcases zFy hR with ⟨_, h0, s, h1, h2⟩ | h
   ·have := zFn (zDv h0 h1)
    rw [<- h2] at this
    exact ab this.1 (by decide)
   exact h.1
  refine ifK (fun h => ab (by simpa using h) he) (fun _ => ?_)
  refine eI (B, trB B) (aI ⟨rfl, .tree _ _ _, by show B.length <= _; omega⟩ ?_)
  refine fun ⟨m2, e2, p2⟩ hq2 => ?_
  refine ifK (fun he2 => ?_) (fun he2 => ?_)
  ·have he2 : e2 ≠ 0 := by intro h; subst h; exact ab (show ((0 : Int) != 0) = true from he2) (by decide)
   obtain ⟨rfl, q1, q2⟩ := zLi hq2 he2
   refine eI (zM.lt, ⟨zM, .slice none 0 0, .slice none 0 0, .slice none 0 0, .slice none 0 0⟩) (aI ⟨rfl, ⟨zM.lt_at _, .nil _ _, .nil _ _, .nil _ _, .nil _ _⟩, zM_fit⟩ ?_)
   refine ifK (fun _ => ?_) (fun h => ab (oF h) (aL q1))
   exact ⟨_, _, _, congrArg (fun b => Res.ret (.bool b) _ _ _) (aX q2)⟩
  have he2 : e2 = 0 := by simpa using he2
  subst he2
  obtain ⟨hq3, fk, fo, fc⟩ := zOw hq2 hB5
  obtain ⟨R2, hR2⟩ : ∃ R, m2.wr = R := ⟨_, rfl⟩
  obtain ⟨e3, o3⟩ := R2
  cases o3 with
  | nil =>
   refine eI (m2.lt, e3, []) (aI ⟨rfl, m2.lt_at _, fo, fk, hR2⟩ ?_)
   have he3 : e3 = 3 := by
    rcases zFy hR2 with ⟨_, h0, s, h1, h2⟩ | h
    ·have := zFn (zDv h0 h1)
     rw [<- h2] at this
     exact ab this.1 (by decide)
    exact h.2.2 fc
   subst he3
   refine eI m2.lt (aI ⟨rfl, m2.lt_at _, fo⟩ ?_)
   refine ifK (fun _ => ?_) (fun h => ab (show (m2.chk == 0) = false from h) (by rw [fc]; decide))
   exact ⟨_, _, _, rfl⟩
  | cons u3 us3 =>
   refine eI (m2.lt, e3, u3 :: us3) (aI ⟨rfl, m2.lt_at _, fo, fk, hR2⟩ ?_)
   obtain ⟨rfl, h0, s, hs, ho⟩ : e3 = 0 /\ m2.chk = 0 /\ ∃ s, mwF ⟨m2.head, [], 0⟩ m2.items = some s /\ u3 :: us3 = s.out := by
    rcases zFy hR2 with h | h
    ·exact h
    exact ab h.2.1 (aZ _ _)
   have hb := zDv h0 hs
   rw [<- ho] at hb
   obtain ⟨l1, l2, l3, l4⟩ := zFn hb
   have fk1 : m2.fit 1000000 := zVc fk
   have l2 : us3.length + 1 <= 65535 := l2
   have at3 : ∀ H : Tr AObj, H.get 3 = some (.cells ((u3 :: us3).map byV) 5) -> LtL layBy H (.slice (some ⟨3, 0, none⟩) (us3.length + 1) U) (u3 :: us3) := fun H h => LtL.own (l := u3 :: us3) layBy [] (by decide) (.inl rfl) h (by rw [<- zCo, aF])
   refine eI (u3 :: us3, .slice (some ⟨3, 0, none⟩) (us3.length + 1) U) (aI ⟨rfl, at3 _ (by kernel_rfl), by show us3.length + 1 <= _; omega⟩ ?_)
   refine fun ⟨m4, e4, p4⟩ hq4 => ?_
   obtain ⟨rfl, rfl, rfl⟩ := hb.det hq4
   refine eI (u3 :: us3, .slice (some ⟨3, 0, none⟩) (us3.length + 1) U) (aI ⟨rfl, at3 _ (by kernel_rfl), l1, by show us3.length + 1 <= _; omega⟩ ?_)
   refine eI (m2.lt, m2.lt) (aI ⟨rfl, ⟨m2.lt_at _, m2.lt_at _⟩, fk1⟩ ?_)
   refine ifK (fun _ => ?_) (fun h => ab (show m2.same m2 = false from h) (by rw [MsT.same_refl]; simp))
   refine ifK (fun _ => ?_) (fun h => ab (show (((numAt (u3 :: us3) 0 2 : Nat) : Int) == m2.id) = false from h) (by rw [l3]; simp))
   exact ⟨_, _, _, congrArg (fun b => Res.ret (.bool b) _ _ _) (show (((numAt (u3 :: us3) 2 2 : Nat) : Int) == m2.fl) = true by rw [l4]; simp)⟩
 | cons u us =>
  refine eI (m.lt, e, u :: us) (aI ⟨rfl, m.lt_at _, hok, hk, hR⟩ ?_)
  obtain ⟨rfl, h0, s, hs, ho⟩ : e = 0 /\ m.chk = 0 /\ ∃ s, mwF ⟨m.head, [], 0⟩ m.items = some s /\ u :: us = s.out := by
   rcases zFy hR with h | h
   ·exact h
   exact ab h.2.1 (aZ _ _)
  have hb := zDv h0 hs
  rw [<- ho] at hb
  have hl := zFn hb
  have at1 : ∀ H : Tr AObj, H.get 1 = some (.cells ((u :: us).map byV) 5) -> LtL layBy H (.slice (some ⟨1, 0, none⟩) (us.length + 1) U) (u :: us) := fun H h => LtL.own (l := u :: us) layBy [] (by decide) (.inl rfl) h (by rw [<- zCo, aF])
  refine eI (u :: us, .slice (some ⟨1, 0, none⟩) (us.length + 1) U) (aI ⟨rfl, at1 _ (by kernel_rfl), by show us.length + 1 <= _; have := hl.2.1; simp only [aC] at this; omega⟩ ?_)
  refine fun ⟨m1, e1, p1⟩ hq1 => ?_
  obtain ⟨rfl, rfl, rfl⟩ := hb.det hq1
  obtain ⟨l1, l2, l3, l4⟩ := hl
  have l2 : us.length + 1 <= 65535 := l2
  refine eI (m.lt, m.lt) (aI ⟨rfl, ⟨m.lt_at _, m.lt_at _⟩, hk1⟩ ?_)
  refine ifK (fun h => ab (show (!m.same m) = true from h) (by rw [MsT.same_refl]; simp)) (fun _ => ?_)
  refine eI m.lt (aI ⟨rfl, m.lt_at _, hok⟩ ?_)
  refine ifK (fun h => ab (show (m.chk != 0) = true from h) (by rw [h0]; decide)) (fun _ => ?_)
  refine ifK (fun h => ab (show ((us.length + 1 : Nat) : Int) > 65535 from oT h) (by omega)) (fun _ => ?_)
  obtain ⟨j, hj, hjl⟩ : ∃ j : Nat, pickI k ((us.length + 1 : Nat) : Int) = (j : Int) /\ j < us.length + 1 := by
   have h := pickI_of (x := k) (n := ((us.length + 1 : Nat) : Int)) (by omega) (by omega)
   have h1 := Int.emod_nonneg k (show ((us.length + 1 : Nat) : Int) ≠ 0 by omega)
   have h2 := Int.emod_lt_of_pos k (show 0 < ((us.length + 1 : Nat) : Int) by omega)
   exact ⟨(k % ((us.length + 1 : Nat) : Int)).toNat, by rw [h]; omega, by omega⟩
  refine aI (by unfold inLH; rw [hj]; simp; omega) ?_
  have at2 : ∀ H : Tr AObj, H.get 1 = some (.cells ((u :: us).map byV) 5) -> LtL layBy H (.slice (some ⟨1, 0, none⟩) (pickI k ((us.length + 1 : Nat) : Int)).toNat U) ((u :: us).take j) := fun H h => by
   have e : (pickI k ((us.length + 1 : Nat) : Int)).toNat = ((u :: us).take j).length := by rw [hj, aU, aC]; omega
   rw [e]
   exact LtL.own (l := (u :: us).take j) layBy (((u :: us).drop j).map byV) (by decide) (.inl rfl) h (by rw [zCo, <- List.map_append, List.take_append_drop])
  refine eI ((u :: us).take j, .slice (some ⟨1, 0, none⟩) (pickI k ((us.length + 1 : Nat) : Int)).toNat U) (aI ⟨rfl, at2 _ (by kernel_rfl), by show ((u :: us).take j).length <= _; rw [aU, aC]; omega⟩ ?_)
  refine fun ⟨m5, e5, p5⟩ hq5 => ?_
  have he5 : e5 ≠ 0 := msg_cut hb (k := j) hjl hq5
  refine eI (u, us, .slice (some ⟨1, 0, none⟩) (us.length + 1) U) (aI ⟨rfl, at1 _ (by kernel_rfl), by show us.length + 1 <= _; omega⟩ ?_)
  refine aI (ap8b (cs := (u :: us).map byV) (X := [.int .u8 c.toNat]) (n := us.length + 1) (k := 1) (by rw [aT]; rfl) rfl (Nat.zero_lt_succ _) (by omega)) ?_
  have at8 : ∀ H : Tr AObj, H.get 8 = some (.cells (((u :: us).map byV).take ((us.length + 1) * (Try.prog.types[5]).size) ++ [.int .u8 c.toNat]) 5) -> LtL layBy H (.slice (some ⟨8, 0, none⟩) (us.length + 1 + 1) U) (u :: us ++ [c]) := fun H h => by
   have e : us.length + 1 + 1 = (u :: us ++ [c]).length := by simp
   rw [e]
   exact LtL.own (l := u :: us ++ [c]) layBy [] (by decide) (.inl rfl) h (by rw [tk8b (by rw [aT]; rfl), aF, zCo, List.map_append]; rfl)
  refine eI (u :: us ++ [c], .slice (some ⟨8, 0, none⟩) (us.length + 1 + 1) U) (aI ⟨rfl, at8 _ (by kernel_rfl), by show (u :: us ++ [c]).length <= _; rw [aB, aC, List.length_singleton]; omega⟩ ?_)
  refine fun ⟨m7, e7, p7⟩ hq7 => ?_
  refine ifK (fun h => ab h (by simpa using he5)) (fun _ => ?_)
  conv => whnf
  refine ifK (fun hlt => ?_) (fun _ => ?_)
  ·have hlt : ((us.length + 1 : Nat) : Int) < 65535 := oT hlt
   have hm := msg_more h0 hs c (by rw [<- ho]; show us.length + 1 < _; omega)
   rw [<- ho] at hm
   obtain ⟨z1, z2, z3⟩ := hm.det hq7
   clear hm
   subst z1 z2 z3
   refine aI (by kernel_rfl) ?_
   refine ifK (fun h => ab h (by simp)) (fun _ => ?_)
   refine eI (B, trB B) (aI ⟨rfl, .tree _ _ _, by show B.length <= _; omega⟩ ?_)
   refine fun ⟨m2, e2, p2⟩ hq2 => ?_
   refine ifK (fun he2 => ?_) (fun he2 => ?_)
   ·have he2 : e2 ≠ 0 := by intro h; subst h; exact ab (show ((0 : Int) != 0) = true from he2) (by decide)
    obtain ⟨rfl, q1, q2⟩ := zLi hq2 he2
    refine eI (zM.lt, ⟨zM, .slice none 0 0, .slice none 0 0, .slice none 0 0, .slice none 0 0⟩) (aI ⟨rfl, ⟨zM.lt_at _, .nil _ _, .nil _ _, .nil _ _, .nil _ _⟩, zM_fit⟩ ?_)
    refine ifK (fun _ => ?_) (fun h => ab (oF h) (aL q1))
    exact ⟨_, _, _, congrArg (fun b => Res.ret (.bool b) _ _ _) (aX q2)⟩
   have he2 : e2 = 0 := by simpa using he2
   subst he2
   obtain ⟨hq3, fk, fo, fc⟩ := zOw hq2 hB5
   obtain ⟨R2, hR2⟩ : ∃ R, m2.wr = R := ⟨_, rfl⟩
   obtain ⟨e3, o3⟩ := R2
   cases o3 with
   | nil =>
    refine eI (m2.lt, e3, []) (aI ⟨rfl, m2.lt_at _, fo, fk, hR2⟩ ?_)
    have he3 : e3 = 3 := by
     rcases zFy hR2 with ⟨_, h0, s, h1, h2⟩ | h
     ·have := zFn (zDv h0 h1)
      rw [<- h2] at this
      exact ab this.1 (by decide)
     exact h.2.2 fc
    subst he3
    refine eI m2.lt (aI ⟨rfl, m2.lt_at _, fo⟩ ?_)
    refine ifK (fun _ => ?_) (fun h => ab (show (m2.chk == 0) = false from h) (by rw [fc]; decide))
    exact ⟨_, _, _, rfl⟩
   | cons u3 us3 =>
    refine eI (m2.lt, e3, u3 :: us3) (aI ⟨rfl, m2.lt_at _, fo, fk, hR2⟩ ?_)
    obtain ⟨rfl, h0, s, hs, ho⟩ : e3 = 0 /\ m2.chk = 0 /\ ∃ s, mwF ⟨m2.head, [], 0⟩ m2.items = some s /\ u3 :: us3 = s.out := by
     rcases zFy hR2 with h | h
     ·exact h
     exact ab h.2.1 (aZ _ _)
    have hb := zDv h0 hs
    rw [<- ho] at hb
    obtain ⟨l1, l2, l3, l4⟩ := zFn hb
    have fk1 : m2.fit 1000000 := zVc fk
    have l2 : us3.length + 1 <= 65535 := l2
    have at13 : ∀ H : Tr AObj, H.get 13 = some (.cells ((u3 :: us3).map byV) 5) -> LtL layBy H (.slice (some ⟨13, 0, none⟩) (us3.length + 1) U) (u3 :: us3) := fun H h => LtL.own (l := u3 :: us3) layBy [] (by decide) (.inl rfl) h (by rw [<- zCo, aF])
    refine eI (u3 :: us3, .slice (some ⟨13, 0, none⟩) (us3.length + 1) U) (aI ⟨rfl, at13 _ (by kernel_rfl), by show us3.length + 1 <= _; omega⟩ ?_)
    refine fun ⟨m4, e4, p4⟩ hq4 => ?_
    obtain ⟨rfl, rfl, rfl⟩ := hb.det hq4
    refine eI (u3 :: us3, .slice (some ⟨13, 0, none⟩) (us3.length + 1) U) (aI ⟨rfl, at13 _ (by kernel_rfl), l1, by show us3.length + 1 <= _; omega⟩ ?_)
    refine eI (m2.lt, m2.lt) (aI ⟨rfl, ⟨m2.lt_at _, m2.lt_at _⟩, fk1⟩ ?_)
    refine ifK (fun _ => ?_) (fun h => ab (show m2.same m2 = false from h) (by rw [MsT.same_refl]; simp))
    refine ifK (fun _ => ?_) (fun h => ab (show (((numAt (u3 :: us3) 0 2 : Nat) : Int) == m2.id) = false from h) (by rw [l3]; simp))
    exact ⟨_, _, _, congrArg (fun b => Res.ret (.bool b) _ _ _) (show (((numAt (u3 :: us3) 2 2 : Nat) : Int) == m2.fl) = true by rw [l4]; simp)⟩
  refine eI (B, trB B) (aI ⟨rfl, .tree _ _ _, by show B.length <= _; omega⟩ ?_)
  refine fun ⟨m2, e2, p2⟩ hq2 => ?_
  refine ifK (fun he2 => ?_) (fun he2 => ?_)
  ·have he2 : e2 ≠ 0 := by intro h; subst h; exact ab (show ((0 : Int) != 0) = true from he2) (by decide)
   obtain ⟨rfl, q1, q2⟩ := zLi hq2 he2
   refine eI (zM.lt, ⟨zM, .slice none 0 0, .slice none 0 0, .slice none 0 0, .slice none 0 0⟩) (aI ⟨rfl, ⟨zM.lt_at _, .nil _ _, .nil _ _, .nil _ _, .nil _ _⟩, zM_fit⟩ ?_)
   refine ifK (fun _ => ?_) (fun h => ab (oF h) (aL q1))
   exact ⟨_, _, _, congrArg (fun b => Res.ret (.bool b) _ _ _) (aX q2)⟩
  have he2 : e2 = 0 := by simpa using he2
  subst he2
  obtain ⟨hq3, fk, fo, fc⟩ := zOw hq2 hB5
  obtain ⟨R2, hR2⟩ : ∃ R, m2.wr = R := ⟨_, rfl⟩
  obtain ⟨e3, o3⟩ := R2
  cases o3 with
  | nil =>
   refine eI (m2.lt, e3, []) (aI ⟨rfl, m2.lt_at _, fo, fk, hR2⟩ ?_)
   have he3 : e3 = 3 := by
    rcases zFy hR2 with ⟨_, h0, s, h1, h2⟩ | h
    ·have := zFn (zDv h0 h1)
     rw [<- h2] at this
     exact ab this.1 (by decide)
    exact h.2.2 fc
   subst he3
   refine eI m2.lt (aI ⟨rfl, m2.lt_at _, fo⟩ ?_)
   refine ifK (fun _ => ?_) (fun h => ab (show (m2.chk == 0) = false from h) (by rw [fc]; decide))
   exact ⟨_, _, _, rfl⟩
  | cons u3 us3 =>
   refine eI (m2.lt, e3, u3 :: us3) (aI ⟨rfl, m2.lt_at _, fo, fk, hR2⟩ ?_)
   obtain ⟨rfl, h0, s, hs, ho⟩ : e3 = 0 /\ m2.chk = 0 /\ ∃ s, mwF ⟨m2.head, [], 0⟩ m2.items = some s /\ u3 :: us3 = s.out := by
    rcases zFy hR2 with h | h
    ·exact h
    exact ab h.2.1 (aZ _ _)
   have hb := zDv h0 hs
   rw [<- ho] at hb
   obtain ⟨l1, l2, l3, l4⟩ := zFn hb
   have fk1 : m2.fit 1000000 := zVc fk
   have l2 : us3.length + 1 <= 65535 := l2
   have at13 : ∀ H : Tr AObj, H.get 13 = some (.cells ((u3 :: us3).map byV) 5) -> LtL layBy H (.slice (some ⟨13, 0, none⟩) (us3.length + 1) U) (u3 :: us3) := fun H h => LtL.own (l := u3 :: us3) layBy [] (by decide) (.inl rfl) h (by rw [<- zCo, aF])
   refine eI (u3 :: us3, .slice (some ⟨13, 0, none⟩) (us3.length + 1) U) (aI ⟨rfl, at13 _ (by kernel_rfl), by show us3.length + 1 <= _; omega⟩ ?_)
   refine fun ⟨m4, e4, p4⟩ hq4 => ?_
   obtain ⟨rfl, rfl, rfl⟩ := hb.det hq4
   refine eI (u3 :: us3, .slice (some ⟨13, 0, none⟩) (us3.length + 1) U) (aI ⟨rfl, at13 _ (by kernel_rfl), l1, by show us3.length + 1 <= _; omega⟩ ?_)
   refine eI (m2.lt, m2.lt) (aI ⟨rfl, ⟨m2.lt_at _, m2.lt_at _⟩, fk1⟩ ?_)
   refine ifK (fun _ => ?_) (fun h => ab (show m2.same m2 = false from h) (by rw [MsT.same_refl]; simp))
   refine ifK (fun _ => ?_) (fun h => ab (show (((numAt (u3 :: us3) 0 2 : Nat) : Int) == m2.id) = false from h) (by rw [l3]; simp))
   exact ⟨_, _, _, congrArg (fun b => Res.ret (.bool b) _ _ _) (show (((numAt (u3 :: us3) 2 2 : Nat) : Int) == m2.fl) = true by rw [l4]; simp)⟩
end
end Go.Proofs.Ytcggcoijhdagnaa
