/- DERIVED. Texts put together: A6, Ta1, Et5, Rc1, Et8. -/
import Derived.SizedLaws
import Derived.Test.YtknpgjeclmadkaaZ15
import Derived.Test.YtknpgjeclmadkaaZ17
import Derived.Test.YtknpgjeclmadkaaZ20
set_option maxRecDepth 1000000
set_option maxHeartbeats 32000000
namespace Go.Proofs.Ytknpgjeclmadkaa
open Go Go.Joins Go.ChangeShapes Go.WideShapes Go.RowKit Go.Deep
section
variable {H : Type} {enc : TypeId × Value → H} {P : Program} {w : World} {base : Nat} {spare : Nat → Bool} {held : Bool}
theorem zKd : ∀ (n : Nat) (t : TypeId) (ts : List TypeId) (m : Nat) (cs : List Value) (x : DataW H × List MemPlace), flatOK P n t ts = true → DataW.trod enc P w base spare held m t cs = some x → cs.length = ts.length → ∀ (i : Nat) (u : TypeId) (v : Value), ts[i]? = some u → cs[i]? = some v → ∃ k y, DataW.trod enc P w base spare held k u [v] = some y ∧ ∀ n ∈ y.1.weights P u, n ∈ x.1.weights P t
 | 0, _, _, _, _, _, h, _, _, _, _, _, _, _ => by cases h
 | n + 1, t, ts, m, cs, x, h, hx, hlen, i, u, v, hu, hv => by
  unfold flatOK at h
  split at h
  ·rename_i fs hs
   simp only [Bool.and_eq_true] at h
   obtain ⟨⟨h1, h2⟩, h3⟩ := h
   obtain ⟨xs, n', _, hxe, hl, hxl, hf⟩ := DataW.trod_struct hs hx
   have hi : i < ts.length := (List.getElem?_eq_some_iff.1 hu).1
   have h3 := List.all_eq_true.1 h3 i (List.mem_range.2 hi)
   obtain ⟨f, hfm, h4⟩ := List.any_eq_true.1 h3
   simp only [Bool.and_eq_true] at h4
   have ha := Nat.le_of_ble_eq_true h4.1
   have hb : i < f.offset + P.cellsOf f.type := Nat.le_of_ble_eq_true h4.2
   obtain ⟨j, hj⟩ := List.getElem?_of_mem hfm
   have hj' : fs[j]? = some f := by rw [← Array.getElem?_toList]; exact hj
   have hjl : j < xs.length := by rw [hxl]; exact (Array.getElem?_eq_some_iff.1 hj').1
   have hg := hf j f hj'
   rw [List.getElem?_eq_getElem hjl] at hg
   have hk := List.all_eq_true.1 h2 f hfm
   obtain ⟨k, y, r1, r2⟩ := zKd n f.type _ n' _ _ hk hg (by simp only [List.length_take, List.length_drop, hlen]) (i - f.offset) u v
    (by rw [List.getElem?_take_of_lt (by omega), List.getElem?_drop, show f.offset + (i - f.offset) = i by omega]; exact hu)
    (by rw [List.getElem?_take_of_lt (by omega), List.getElem?_drop, show f.offset + (i - f.offset) = i by omega]; exact hv)
   refine ⟨k, y, r1, fun q hq => ?_⟩
   rw [hxe]
   show q ∈ DataW.weights P t (.agg (xs.map (·.1)))
   unfold DataW.weights
   simp only [hs]
   exact DataW.weights_mem_each (j := j) (t := f.type) (d := (xs[j]'hjl).1) (by rw [List.getElem?_map, hj]; rfl) (by rw [List.getElem?_map, List.getElem?_eq_getElem hjl]; rfl) q (r2 q hq)
  ·split at h
   ·rename_i u'
    have := Nat.eq_of_beq_eq_true h
    subst this
    have hc : cs.length = 1 := hlen
    match cs, hc with
    | [c], _ =>
     cases i with
     | zero =>
      simp only [List.getElem?_cons_zero, Option.some.injEq] at hu hv
      subst hu; subst hv
      exact ⟨m, x, hx, fun q hq => hq⟩
     | succ i => simp at hu
   ·cases h
theorem zRs {r : Reach} {b0 : Nat} {t : TypeId} {fs : Array Field} {ts : List TypeId} {v : Value} {d : DataW H} {p : List MemPlace} (hs : P.underlying t = some (.struct fs)) (ht : flatOK P 8 t ts = true) (hC : P.cellsOf t = ts.length) (hct : P.cellTypes P.depth t = some ts)
  (hv : Value.okWide P w r b0 t v) (h : DataW.Trod enc P w base spare held t v d p) :
  ∃ cs : List Value, v = .agg ⟨cs⟩ ∧ cs.length = ts.length ∧ ∀ (i : Nat) (u : TypeId) (c : Value), ts[i]? = some u → cs[i]? = some c → Cell.okWide P w r b0 u c ∧ ∃ k y, DataW.trod enc P w base spare held k u [c] = some y ∧ ∀ n ∈ y.1.weights P u, n ∈ d.weights P t := by
 simp only [Value.okWide, hs] at hv
 obtain ⟨⟨cs⟩, rfl, hsz, ts', h1, _, h2⟩ := hv
 rw [hct] at h1
 cases h1
 obtain ⟨fuel, hf⟩ := h
 have hl : cs.length = ts.length := by rw [← hC]; exact hsz
 refine ⟨cs, rfl, hl, fun i u c hu hc => ⟨?_, ?_⟩⟩
 ·have hi : i < ts.length := (List.getElem?_eq_some_iff.1 hu).1
  obtain ⟨u', h3, h4⟩ := h2 i c (by simpa using hc)
  rw [Nat.mod_eq_of_lt hi, hu] at h3
  cases h3
  exact h4
 ·exact zKd 8 t ts fuel cs _ ht hf hl i u c hu hc
theorem vr_len {E : Env} {b o n c len cap : Nat} {a : Option Addr} (h : VR E (.slice (some ⟨b, o, none⟩) n c) (.slice a len cap)) : n ≤ len := by
 cases h <;> first | exact Nat.le_refl _ | exact Nat.zero_le _
theorem zEn {α : Type} (L : Lay α) {r : Reach} {b0 : Nat} {t e : TypeId} {v : Value} {fuel R : Nat} {x : DataW H × List MemPlace} (ht : P.underlying t = some (.slice e)) (hC : P.cellsOf e = L.k)
  (hopen : ∀ n cs y, DataW.trod enc P w base spare held n e cs = some y → ∃ x, cs = L.g x) (hv : Cell.okWide P w r b0 t v) (h : DataW.trod enc P w base spare held fuel t [v] = some x) (hpos : 0 < w.heap.size) (hw : ∀ n ∈ x.1.weights P t, n ≤ R) :
  ∃ y : WinL α, y.good L w ∧ y.l.length * P.bytesOf e ≤ R ∧ ∀ (E : Env) (k : Nat), E.dom k → E.ρ k = y.b → E.sh k = y.off → VR E (y.sl k) v := by
 obtain ⟨y, h1, h2⟩ := open_winl L ht hC hopen hv h hpos
 refine ⟨y, h1, ?_, h2⟩
 have hvr := h2 ⟨fun _ => True, fun _ => y.b, fun _ => 0, fun _ => 0, fun _ => y.off, fun _ => False, fun _ => none⟩ 0 trivial rfl rfl
 rcases open_slice ht h with ⟨h0, _⟩ | ⟨a, len, cap, m, n, D, Pl, hcs, _, _, _, _, hx, _⟩
 ·simp only [List.cons.injEq, and_true] at h0
  subst h0
  have : y.l.length = 0 := Nat.le_zero.1 (vr_len (b := 0) (o := 0) (c := y.c) hvr)
  rw [this, Nat.zero_mul]; exact Nat.zero_le _
 ·simp only [List.cons.injEq, and_true] at hcs
  subst hcs
  have hle : y.l.length ≤ len := vr_len (b := 0) (o := 0) (c := y.c) hvr
  have hq := hw ((len + (m - len)) * P.bytesOf e) (by
   rw [hx]
   show _ ∈ DataW.weights P t (.slice _ _)
   unfold DataW.weights
   simp only [ht, List.length_map, List.length_range]
   exact List.mem_cons_self ..)
  exact Nat.le_trans (Nat.mul_le_mul_right _ (by omega)) hq
end
section
variable {H : Type} {enc : TypeId × Value → H} {w : World} {base : Nat} {spare : Nat → Bool} {held : Bool}
theorem bytes_q : Try.prog.bytesOf 57 = 32 := by kernel_rfl
theorem zOa : Try.prog.bytesOf 48 = 56 := by kernel_rfl
theorem weigh {ts : List TypeId} {ds : List (DataW H)} (h : (DataW.weightsEach Try.prog ts ds).all (· ≤ reachBytes) = true) {j : Nat} {t : TypeId} {d : DataW H} (ht : ts[j]? = some t) (hd : ds[j]? = some d) : ∀ n ∈ d.weights Try.prog t, n ≤ reachBytes := fun n hn => by
 have := List.all_eq_true.1 h n (DataW.weights_mem_each ht hd n hn)
 exact of_decide_eq_true this
end
end Go.Proofs.Ytknpgjeclmadkaa
namespace Go.Proofs.Ytknpgjeclmadkaa
open Go Go.Joins Go.ChangeShapes Go.WideShapes Go.RowKit Go.Deep
theorem zEq {α : Type} (L : Lay α) {w : World} {y : WinL α} (hg : y.good L w) {v : Value} (h : ∀ (E : Env) (k : Nat), E.dom k → E.ρ k = y.b → E.sh k = y.off → VR E (y.sl k) v) : VR (Env.all w) (treeV L.k y.l.length (y.l.flatMap L.g)) v := by
 obtain ⟨g1, g2, g3, g4⟩ := hg
 have hvr : VR ⟨fun _ => True, fun _ => y.b, fun _ => 0, fun _ => 0, fun _ => y.off, fun _ => False, fun _ => none⟩ (.slice (some ⟨0, 0, none⟩) y.l.length y.c) v := h ⟨fun _ => True, fun _ => y.b, fun _ => 0, fun _ => 0, fun _ => y.off, fun _ => False, fun _ => none⟩ 0 trivial rfl rfl
 have hlen := zAa L.g L.k L.len y.l
 have hpl := zAb L.g L.plain y.l
 have cell : ∀ j, j < (y.l.flatMap L.g).length → fzc (Env.all w).fz y.b (y.off + j) = some ((y.l.flatMap L.g).getD j undef) := fun j hj => by
  have := g2 j _ (List.getElem?_eq_getElem hj)
  rw [List.getD_eq_getElem?_getD, List.getElem?_eq_getElem hj, Option.getD_some, ← this]
  unfold fzc World.cell? Env.all
  rfl
 have dv : ∀ (j : Nat) (u : Value), (y.l.flatMap L.g)[j]? = some u → DV (Env.all w).fz u ((y.l.flatMap L.g).getD j undef) := fun j u hj => by
  rw [List.getD_eq_getElem?_getD, hj, Option.getD_some]
  exact .plain _ (List.all_eq_true.1 hpl u (List.mem_of_getElem? hj))
 have hmx : maxLen = 9223372036854775807 := by decide
 obtain ⟨_, ⟨_, rfl⟩ | ⟨hU, _⟩ | ⟨h0, _, a', _, rfl⟩⟩ := hvr.slice_inv
 ·exact .deep _ _ _ _ _ _ _ (.tree L.k _ y.c y.b y.off _ _ (fun j => (y.l.flatMap L.g).getD j undef) hlen g3 g4 (.inl rfl) cell dv)
 ·have : U = 1180591620717411303424 := rfl
  omega
 ·rw [h0]
  have hn : y.l = [] := List.eq_nil_of_length_eq_zero h0
  rw [hn]
  exact .deep _ _ _ _ _ _ _ (.tree L.k 0 0 0 0 [] _ (fun _ => undef) (by simp) (Nat.le_refl _) (Nat.zero_le _) (.inr ⟨rfl, rfl⟩) (fun j hj => by simp at hj) (fun j u hj => by simp at hj))
section
variable {H : Type} {enc : TypeId × Value → H} {w : World} {base : Nat} {spare : Nat → Bool} {held : Bool}
theorem open_msT {r : Reach} {b0 : Nat} (hpos : 0 < w.heap.size) (cs : List Value) (hl : cs.length = 6) (h : ∀ (i : Nat) (u : TypeId) (c : Value), msTypes[i]? = some u → cs[i]? = some c → Cell.okWide Try.prog w r b0 u c ∧ ∃ k y, DataW.trod enc Try.prog w base spare held k u [c] = some y ∧ ∀ n ∈ y.1.weights Try.prog u, n ≤ reachBytes) :
  ∃ m : MsT, m.fit 4398046511104 ∧ VL (Env.all w) m.cs cs := by
 match cs, hl with
 | [c0, c1, c2, c3, c4, c5], _ =>
  obtain ⟨_, _, _, h0, _⟩ := h 0 _ _ rfl rfl
  obtain ⟨_, _, _, h1, _⟩ := h 1 _ _ rfl rfl
  obtain ⟨o2, _, _, h2, w2⟩ := h 2 _ _ rfl rfl
  obtain ⟨o3, _, _, h3, w3⟩ := h 3 _ _ rfl rfl
  obtain ⟨o4, _, _, h4, w4⟩ := h 4 _ _ rfl rfl
  obtain ⟨o5, _, _, h5, w5⟩ := h 5 _ _ rfl rfl
  obtain ⟨x0, rfl⟩ := zFf h0
  obtain ⟨x1, rfl⟩ := zFf h1
  obtain ⟨q, g2, s2, e2⟩ := zEn layQ Try.underlying22 (by kernel_rfl) (fun _ _ _ hy => trod_qu hy) o2 h2 hpos w2
  obtain ⟨an, g3, s3, e3⟩ := zEn layR Try.underlying23 (by kernel_rfl) (fun _ _ _ hy => zPn hy) o3 h3 hpos w3
  obtain ⟨ns, g4, s4, e4⟩ := zEn layR Try.underlying23 (by kernel_rfl) (fun _ _ _ hy => zPn hy) o4 h4 hpos w4
  obtain ⟨ar, g5, s5, e5⟩ := zEn layR Try.underlying23 (by kernel_rfl) (fun _ _ _ hy => zPn hy) o5 h5 hpos w5
  have hR : reachBytes = 140737488351232 := by decide
  have s2 : q.l.length * 32 ≤ reachBytes := bytes_q ▸ s2
  have s3 : an.l.length * 56 ≤ reachBytes := zOa ▸ s3
  have s4 : ns.l.length * 56 ≤ reachBytes := zOa ▸ s4
  have s5 : ar.l.length * 56 ≤ reachBytes := zOa ▸ s5
  exact ⟨⟨x0, x1, q.l, an.l, ns.l, ar.l⟩, ⟨by show q.l.length ≤ _; omega, by show an.l.length ≤ _; omega, by show ns.l.length ≤ _; omega, by show ar.l.length ≤ _; omega⟩,
   .cons _ _ _ _ (.int _ _) (.cons _ _ _ _ (.int _ _) (.cons _ _ _ _ (zEq layQ g2 e2) (.cons _ _ _ _ (zEq layR g3 e3) (.cons _ _ _ _ (zEq layR g4 e4) (.cons _ _ _ _ (zEq layR g5 e5) .nil)))))⟩
theorem open_msgT {r : Reach} {b0 : Nat} {v : Value} {d : DataW H} {p : List MemPlace} (hpos : 0 < w.heap.size) (hv : Value.okWide Try.prog w r b0 25 v) (h : DataW.Trod enc Try.prog w base spare held 25 v d p) (hw : ∀ n ∈ d.weights Try.prog 25, n ≤ reachBytes) :
  ∃ m : MsT, m.fit 4398046511104 ∧ VR (Env.all w) m.v v := by
 obtain ⟨cs, rfl, hl, hf⟩ := zRs (ts := msTypes) Try.underlying25 (by kernel_rfl) (by kernel_rfl) (by kernel_rfl) hv h
 obtain ⟨m, h1, h2⟩ := open_msT hpos cs hl (fun i u c hu hc => by
  obtain ⟨q1, k, y, q2, q3⟩ := hf i u c hu hc
  exact ⟨q1, k, y, q2, fun n hn => hw n (q3 n hn)⟩)
 exact ⟨m, h1, .agg _ _ h2⟩
end
theorem MsT.few {m : MsT} {n : Int} {k : Nat} (hk : n ≤ k) (hf : m.fit 4398046511104) {y : Int} (h : m.big n y = false) : m.q.length + m.an.length + m.ns.length + m.ar.length ≤ k := by
 obtain ⟨h1, h2, h3, h4⟩ := hf
 unfold MsT.big at h
 have h := (Bool.or_eq_false_iff.1 h).1
 have h := of_decide_eq_false h
 unfold MsT.len at h
 rw [wrapM (x := (m.q.length : Int) + (m.an.length : Int)) (by omega) (by omega)] at h
 rw [wrapM (x := (m.q.length : Int) + (m.an.length : Int) + (m.ns.length : Int)) (by omega) (by omega)] at h
 rw [wrapM (by omega) (by omega)] at h
 omega
theorem MsT.few_fit {m : MsT} {n : Int} {k : Nat} (hk : n ≤ k) (hf : m.fit 4398046511104) {y : Int} (h : m.big n y = false) : m.fit k := by
 have := MsT.few hk hf h
 exact ⟨by omega, by omega, by omega, by omega⟩
theorem MsT.small_ar {m : MsT} {n : Int} {y : Int} (h : m.big n y = false) : ∀ x ∈ m.ar, (x.n.data.toList.length : Int) ≤ y ∧ (x.d.data.toList.length : Int) ≤ y := fun x hx => by
 unfold MsT.big at h
 simp only [Bool.or_eq_false_iff] at h
 have := h.2.2.2.2
 have := List.any_eq_false.1 this x hx
 unfold bigR at this
 simp only [Bool.or_eq_true, decide_eq_true_eq, not_or, Array.length_toList] at this ⊢
 omega
end Go.Proofs.Ytknpgjeclmadkaa
namespace Go.Proofs.Ytknpgjeclmadkaa
open Go Go.RowKit
theorem zPw (x : Int) : ∃ n : Nat, n < 16 ∧ codeI x = (n : Int) := by
 refine ⟨(b64 x &&& b64 15).toNat, ?_, ?_⟩
 ·rw [b64_15, and15]; omega
 ·have : (b64 x &&& b64 15).toNat < 16 := by rw [b64_15, and15]; omega
  unfold codeI
  rw [wrapN (by omega) (by omega)]
end Go.Proofs.Ytknpgjeclmadkaa
namespace Go.Proofs.Ytknpgjeclmadkaa
open Go Go.RowKit
noncomputable def ct_rofT : Ct Try.prog 0 := CtR.tree 22 MsT (fun m => [m.v]) (fun m => m.fit 1000000 ∧ ∀ x ∈ m.ar, x.d.data.toList.length ≤ 1000000) (fun m => ofV (ofM m)) (fun _ _ h => zIv h) (fun _ => rfl)
 (fun m hf => by obtain ⟨r, hF, v, H, k, wr, rfl, hz⟩ := rof_tr m hf.1 hf.2; exact ⟨_, _, _, _, hF, hz⟩)
theorem of_ext {m : MsT} (h : (ofM m).2.1 = true) : ∃ n : Nat, n < 128 ∧ (ofM m).1.ext = (n : Int) := by
 unfold ofM at h ⊢
 split at h
 ·cases h
 rename_i h1
 rw [if_neg h1]
 split at h
 ·cases h
 rename_i h2
 rw [if_neg h2]
 cases hf : m.ar.find? isO with
 | none => rw [hf] at h; cases h
 | some x =>
  rw [hf] at h
  simp only at h ⊢
  cases ho : edOk x with
  | false => rw [ho] at h; cases h
  | true =>
   rw [if_pos rfl]
   simp only [edOk, Bool.and_eq_true, decide_eq_true_eq] at ho
   obtain ⟨⟨⟨⟨⟨o1, o2⟩, o3⟩, o4⟩, o5⟩, o6⟩ := ho
   obtain ⟨n, hn⟩ := Int.eq_ofNat_of_zero_le o5
   refine ⟨n / 16777216, by omega, ?_⟩
   show (shrI .i64 x.ttl 24) = _
   rw [hn]
   show ((n : Nat) : Int).fdiv ((16777216 : Nat) : Int) = _
   rw [Int.ofNat_fdiv]
theorem of_not {m : MsT} (h : (ofM m).2.1 = false) : (ofM m).1 = ed0 := by
 unfold ofM at h ⊢
 split at h
 ·rename_i h1; rw [if_pos h1]
 rename_i h1
 rw [if_neg h1]
 split at h
 ·rename_i h2; rw [if_pos h2]
 rename_i h2
 rw [if_neg h2]
 cases hf : m.ar.find? isO with
 | none => rfl
 | some x =>
  rw [hf] at h
  simp only at h ⊢
  cases ho : edOk x with
  | false => rfl
  | true => rw [ho] at h; cases h
theorem or_code {e c : Nat} (he : e < 65536) (hc : c < 16) : bitsI .or .i64 (shlI .i64 (e : Int) 4) (c : Int) = IntKind.i64.wrap (IntKind.i64.wrap (16 * (e : Int)) + (c : Int)) := by
 have h1 : shlI .i64 (e : Int) 4 = ((16 * e : Nat) : Int) := by
  show IntKind.i64.wrap ((e : Int) * 2 ^ 4) = _
  rw [wrapN (by omega) (by omega)]; omega
 have h2 : bitsI .or .i64 ((16 * e : Nat) : Int) (c : Int) = IntKind.i64.wrap (b64 ((16 * e : Nat) : Int) ||| b64 (c : Int)).toNat := rfl
 rw [h1, h2, or16 (q := e) (r := c) (zNy (by omega)) (zNy (by omega)) hc, wrapN (x := 16 * (e : Int)) (by omega) (by omega)]
 congr 1
theorem code_is {m : MsT} (h : (ofM m).2.1 = true) : IntKind.i64.wrap (IntKind.i64.wrap (16 * (ofM m).1.ext) + codeI m.fl) = m.code := by
 obtain ⟨e, he, h1⟩ := of_ext h
 obtain ⟨c, hc, h2⟩ := zPw m.fl
 unfold MsT.code
 rw [h1, h2, or_code (by omega) hc]
theorem code_not {m : MsT} (h : (ofM m).2.1 = false) : codeI m.fl = m.code := by
 obtain ⟨c, hc, h2⟩ := zPw m.fl
 unfold MsT.code
 rw [of_not h, h2, show ed0.ext = ((0 : Nat) : Int) from rfl, or_code (by omega) hc]
 show _ = IntKind.i64.wrap (0 + (c : Int))
 rw [wrapN (by omega) (by omega)]; omega
theorem rcode8_fn (x : Int) : ∃ r, FnS Try.prog 0 48 [.int .i64 x] .e 0 r ∧ ∃ H m wr, r = .ret (.int .i64 (codeI x)) H m wr := by
 refine zBk mixed tbN [] Try.func48 (c := bodyOf Try.f48) (by kernel_rfl) ?_
 exact ⟨_, _, _, rfl⟩
def ct_rcode8 : Ct Try.prog 0 := Ct.int1 48 codeI (fun x => by obtain ⟨r, h, H, m, wr, rfl⟩ := rcode8_fn x; exact ⟨H, m, wr, h⟩)
noncomputable def tbRc : Tb Try.prog 0 := tbOf mixed [ct_rofT, ct_rcode8]
theorem rcode_tr (m : MsT) (hf : m.fit 1000000 ∧ ∀ x ∈ m.ar, x.d.data.toList.length ≤ 1000000) : ∃ r, FnS Try.prog 0 26 [m.v] .e 0 r ∧ ∃ H k wr, r = .ret (.int .i64 m.code) H k wr := by
 refine zBk mixed tbRc [] Try.func26 (c := bodyOf Try.f26) (by kernel_rfl) ?_
 refine Exists.intro m (And.intro ⟨rfl, hf⟩ ?_)
 refine ifK (fun h => ?_) (fun h => ?_)
 ·have h : (!(ofM m).2.1) = true := h
  have h : (ofM m).2.1 = false := by simpa using h
  rw [← code_not h]; exact ⟨_, _, _, rfl⟩
 ·have h : (!(ofM m).2.1) = false := h
  have h : (ofM m).2.1 = true := by simpa using h
  rw [← code_is h]
  refine And.intro (by kernel_rfl) ?_
  exact ⟨_, _, _, rfl⟩
theorem rroom_tr (m : MsT) (hf : m.fit 1000000 ∧ ∀ x ∈ m.ar, x.d.data.toList.length ≤ 1000000) : ∃ r, FnS Try.prog 0 28 [m.v] .e 0 r ∧ ∃ H k wr, r = .ret (.int .i64 m.room) H k wr := by
 refine zBk mixed tbRc [] Try.func28 (c := bodyOf Try.f28) (by kernel_rfl) ?_
 refine Exists.intro m (And.intro ⟨rfl, hf⟩ ?_)
 refine ifK (fun h => ?_) (fun h => ?_)
 ·have h : (!(ofM m).2.1) = true := h
  have h : (ofM m).2.1 = false := by simpa using h
  rw [show m.room = (512 : Int) by unfold MsT.room; rw [of_not h]; rfl]; exact ⟨_, _, _, rfl⟩
 ·exact ⟨_, _, _, rfl⟩
noncomputable def ct_rcodeT : Ct Try.prog 0 := CtR.tree 26 MsT (fun m => [m.v]) (fun m => m.fit 1000000 ∧ ∀ x ∈ m.ar, x.d.data.toList.length ≤ 1000000) (fun m => .int .i64 m.code) (fun _ _ h => zIv h) (fun _ => rfl)
 (fun m hf => by obtain ⟨r, hF, H, k, wr, rfl⟩ := rcode_tr m hf; exact ⟨_, _, _, _, hF, .one _ _ (.plain _ rfl)⟩)
noncomputable def ct_rroomT : Ct Try.prog 0 := CtR.tree 28 MsT (fun m => [m.v]) (fun m => m.fit 1000000 ∧ ∀ x ∈ m.ar, x.d.data.toList.length ≤ 1000000) (fun m => .int .i64 m.room) (fun _ _ h => zIv h) (fun _ => rfl)
 (fun m hf => by obtain ⟨r, hF, H, k, wr, rfl⟩ := rroom_tr m hf; exact ⟨_, _, _, _, hF, .one _ _ (.plain _ rfl)⟩)
end Go.Proofs.Ytknpgjeclmadkaa
namespace Go.Proofs.Ytknpgjeclmadkaa
open Go Go.RowKit
theorem zQn {B : Bl} : ∀ (f i : Nat) (out l : List OpX), optF B f i out = some l → l.length ≤ out.length + f
 | 0, _, _, _, h => by cases h
 | f + 1, i, out, l, h => by
  unfold optF at h
  split at h
  ·cases h; omega
  ·split at h
   ·have := zQn f _ _ l h; simp only [List.length_append, List.length_cons, List.length_nil] at this; omega
   ·cases h
theorem of_len {m : MsT} (hd : ∀ x ∈ m.ar, x.d.data.toList.length ≤ 1000000) : (ofM m).1.o.length ≤ 1000000000 := by
 cases h : (ofM m).2.1 with
 | false => rw [of_not h]; exact Nat.zero_le _
 | true =>
  unfold ofM at h ⊢
  split at h
  ·cases h
  rename_i h1
  rw [if_neg h1]
  split at h
  ·cases h
  rename_i h2
  rw [if_neg h2]
  cases hf : m.ar.find? isO with
  | none => exact Nat.zero_le _
  | some x =>
   rw [hf] at h
   simp only at h ⊢
   cases ho : edOk x with
   | false => exact Nat.zero_le _
   | true =>
    rw [if_pos rfl]
    have hx := hd x (List.mem_of_find?_eq_some hf)
    show ((optL x.d.data.toList).getD []).length ≤ _
    cases hl : optL x.d.data.toList with
    | none => exact Nat.zero_le _
    | some l => have := zQn _ _ _ _ hl; show l.length ≤ _; simp only [List.length_nil] at this; omega
def nmL (m : MsT) (b1 b2 b3 b4 : Nat) : LtM := ⟨m, ownV b1 m.q, ownV b2 m.an, ownV b3 m.ns, ownV b4 m.ar⟩
def nmAt (m : MsT) (b1 b2 b3 b4 : Nat) (H : Tr AObj) : Prop := H.get b1 = some (ownB layQ 25 m.q) ∧ H.get b2 = some (ownB layR 23 m.an) ∧ H.get b3 = some (ownB layR 23 m.ns) ∧ H.get b4 = some (ownB layR 23 m.ar)
theorem nmL_at {m : MsT} {b1 b2 b3 b4 : Nat} {H : Tr AObj} (hJ : b1 < JJ ∧ b2 < JJ ∧ b3 < JJ ∧ b4 < JJ) (h : nmAt m b1 b2 b3 b4 H) : (nmL m b1 b2 b3 b4).at H :=
 ⟨.ownV layQ _ hJ.1 h.1, .ownV layR _ hJ.2.1 h.2.1, .ownV layR _ hJ.2.2.1 h.2.2.1, .ownV layR _ hJ.2.2.2 h.2.2.2⟩
noncomputable def tbEt8 : Tb Try.prog 0 := tbOf mixed [Ct.yes 20 zMe, ct_bigMsT, ct_copyMT, ct_ofL, ct_rofT, ct_stripN, zRh, ct_sameET, zMl, ct_codeL, ct_rcodeT, ct_roomL, ct_rroomT, ct_overN, ct_keptML]
theorem tells_fn (m : MsT) (hf : m.fit 4398046511104) : ∃ r, FnS Try.prog 0 4 [m.v] .e 0 r ∧ ∃ H k wr, r = .ret (.bool true) H k wr := by
 refine zBk mixed tbEt8 [] Try.func4 (c := bodyOf Try.f4) (by kernel_rfl) ?_
 refine Exists.intro (m, 200, 66000) (And.intro ⟨rfl, ⟨by have := hf.1; show m.q.length ≤ _; omega, by have := hf.2.1; show m.an.length ≤ _; omega, by have := hf.2.2.1; show m.ns.length ≤ _; omega, by have := hf.2.2.2; show m.ar.length ≤ _; omega⟩⟩ ?_)
 refine ifK (fun g => ?_) (fun g => ?_)
 ·exact ⟨_, _, _, rfl⟩
 have g : m.big 200 66000 = false := g
 have hk : m.fit 1000000 := by obtain ⟨a, b, c, d⟩ := MsT.few_fit (k := 200) (by omega) hf g; exact ⟨by omega, by omega, by omega, by omega⟩
 have hk2 : m.fit 1048576 := by obtain ⟨a, b, c, d⟩ := hk; exact ⟨by omega, by omega, by omega, by omega⟩
 have hd : ∀ x ∈ m.ar, x.d.data.toList.length ≤ 1000000 := fun x hx => by have := (MsT.small_ar g x hx).2; omega
 have hks := MsT.strip_fit hk
 refine Exists.intro m (And.intro ⟨rfl, hk2⟩ ?_)
 have at1 : ∀ H : Tr AObj, cpAt m 1 2 3 4 H → (cpL m 1 2 3 4).at H := fun H h => cpL_at hk2 (by decide) h
 refine Exists.intro (cpL m 1 2 3 4) (And.intro ⟨rfl, at1 _ ⟨by kernel_rfl, by kernel_rfl, by kernel_rfl, by kernel_rfl⟩, hk, hd⟩ ?_)
 refine Exists.intro m (And.intro ⟨rfl, hk, hd⟩ ?_)
 refine And.intro (by kernel_rfl) ?_
 refine Exists.intro (cpL m 1 2 3 4) (And.intro ⟨rfl, at1 _ ⟨by kernel_rfl, by kernel_rfl, by kernel_rfl, by kernel_rfl⟩, hk⟩ ?_)
 refine Exists.intro m (And.intro ⟨rfl, hk⟩ ?_)
 refine And.intro (by kernel_rfl) ?_
 refine Exists.intro (ofM m).1 (And.intro ⟨rfl, of_len hd⟩ ?_)
 refine ifK (fun _ => ?_) (fun h => absurd (show ((ofM m).2.1 == (ofM m).2.1) = false from h) (by simp))
 refine ifK (fun _ => ?_) (fun h => absurd (show ((ofM m).2.2 == (ofM m).2.2) = false from h) (by simp))
 refine Exists.intro (nmL m.strip 8 9 10 11, m.strip.lt) (And.intro ⟨rfl, ⟨nmL_at (by decide) ⟨by kernel_rfl, by kernel_rfl, by kernel_rfl, by kernel_rfl⟩, MsT.lt_at _ _⟩, hks⟩ ?_)
 refine ifK (fun _ => ?_) (fun h => absurd (show m.strip.same m.strip = false from h) (by rw [MsT.same_refl]; simp))
 refine Exists.intro (cpL m 1 2 3 4) (And.intro ⟨rfl, at1 _ ⟨by kernel_rfl, by kernel_rfl, by kernel_rfl, by kernel_rfl⟩, hk, hd⟩ ?_)
 refine Exists.intro m (And.intro ⟨rfl, hk, hd⟩ ?_)
 refine ifK (fun _ => ?_) (fun h => absurd (show (m.code == m.code) = false from h) (by simp))
 refine Exists.intro (cpL m 1 2 3 4) (And.intro ⟨rfl, at1 _ ⟨by kernel_rfl, by kernel_rfl, by kernel_rfl, by kernel_rfl⟩, hk, hd⟩ ?_)
 refine Exists.intro m (And.intro ⟨rfl, hk, hd⟩ ?_)
 refine Exists.intro ⟨m.strip, 8, 9, 10, 11⟩ (And.intro ⟨rfl, ⟨by kernel_rfl, by kernel_rfl, by kernel_rfl, by kernel_rfl⟩, (show [8, 9, 10, 11].Nodup by decide), hks⟩ ?_)
 refine ifK (fun _ => ?_) (fun h => absurd (show (m.room == m.room) = false from h) (by simp))
 refine Exists.intro (m, 1, 2, 3, 4) (And.intro ⟨rfl, ⟨by kernel_rfl, by kernel_rfl, by kernel_rfl, by kernel_rfl⟩, (show [1, 2, 3, 4].Nodup by decide), hk⟩ ?_)
 exact ⟨_, _, _, rfl⟩
end Go.Proofs.Ytknpgjeclmadkaa
