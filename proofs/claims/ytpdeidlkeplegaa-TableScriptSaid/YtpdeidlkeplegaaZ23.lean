/- DERIVED. Texts put together: A6, Ta0, Tq14. -/
import Derived.SizedLaws
import Derived.Test.YtpdeidlkeplegaaZ12
import Derived.Test.YtpdeidlkeplegaaZ13
import Derived.Test.YtpdeidlkeplegaaZ22
set_option maxRecDepth 1000000
set_option maxHeartbeats 32000000
namespace Go.Proofs.Ytpdeidlkeplegaa
open Go Go.Joins Go.ChangeShapes Go.WideShapes Go.RowKit Go.Deep
section
variable {H : Type} {enc : TypeId × Value → H} {P : Program} {w : World} {base : Nat} {spare : Nat → Bool} {held : Bool}
theorem zKr : ∀ (n : Nat) (t : TypeId) (ts : List TypeId) (m : Nat) (cs : List Value) (x : DataW H × List MemPlace), flatOK P n t ts = true → DataW.trod enc P w base spare held m t cs = some x → cs.length = ts.length → ∀ (i : Nat) (u : TypeId) (v : Value), ts[i]? = some u → cs[i]? = some v → ∃ k y, DataW.trod enc P w base spare held k u [v] = some y ∧ ∀ n ∈ y.1.weights P u, n ∈ x.1.weights P t
 | 0, _, _, _, _, _, h, _, _, _, _, _, _, _ => by cases h
 | n + 1, t, ts, m, cs, x, h, hx, hlen, i, u, v, hu, hv => by
  unfold flatOK at h
  split at h
  ·rename_i fs hs
   simp only [Bool.and_eq_true] at h
   obtain ⟨⟨h1, h2⟩, h3⟩ := h
   obtain ⟨xs, n', _, hxe, hl, hxl, hf⟩ := DataW.trod_struct hs hx
   have hi : i < ts.length := (List.getElem?_eq_some_iff.1 hu).1
   have h3 := List.all_eq_true.1 h3 i (List.mem_range.2 hi)
   obtain ⟨f, hfm, h4⟩ := List.any_eq_true.1 h3
   simp only [Bool.and_eq_true] at h4
   have ha := Nat.le_of_ble_eq_true h4.1
   have hb : i < f.offset + P.cellsOf f.type := Nat.le_of_ble_eq_true h4.2
   obtain ⟨j, hj⟩ := List.getElem?_of_mem hfm
   have hj' : fs[j]? = some f := by rw [← Array.getElem?_toList]; exact hj
   have hjl : j < xs.length := by rw [hxl]; exact (Array.getElem?_eq_some_iff.1 hj').1
   have hg := hf j f hj'
   rw [List.getElem?_eq_getElem hjl] at hg
   have hk := List.all_eq_true.1 h2 f hfm
   obtain ⟨k, y, r1, r2⟩ := zKr n f.type _ n' _ _ hk hg (by simp only [List.length_take, List.length_drop, hlen]) (i - f.offset) u v
    (by rw [List.getElem?_take_of_lt (by omega), List.getElem?_drop, show f.offset + (i - f.offset) = i by omega]; exact hu)
    (by rw [List.getElem?_take_of_lt (by omega), List.getElem?_drop, show f.offset + (i - f.offset) = i by omega]; exact hv)
   refine ⟨k, y, r1, fun q hq => ?_⟩
   rw [hxe]
   show q ∈ DataW.weights P t (.agg (xs.map (·.1)))
   unfold DataW.weights
   simp only [hs]
   exact DataW.weights_mem_each (j := j) (t := f.type) (d := (xs[j]'hjl).1) (by rw [List.getElem?_map, hj]; rfl) (by rw [List.getElem?_map, List.getElem?_eq_getElem hjl]; rfl) q (r2 q hq)
  ·split at h
   ·rename_i u'
    have := Nat.eq_of_beq_eq_true h
    subst this
    have hc : cs.length = 1 := hlen
    match cs, hc with
    | [c], _ =>
     cases i with
     | zero =>
      simp only [List.getElem?_cons_zero, Option.some.injEq] at hu hv
      subst hu; subst hv
      exact ⟨m, x, hx, fun q hq => hq⟩
     | succ i => simp at hu
   ·cases h
theorem zRm {E : Env} {b o n c len cap : Nat} {a : Option Addr} (h : VR E (.slice (some ⟨b, o, none⟩) n c) (.slice a len cap)) : n ≤ len := by
 cases h <;> first | exact Nat.le_refl _ | exact Nat.zero_le _
theorem zSi {α : Type} (L : Lay α) {r : Reach} {b0 : Nat} {t e : TypeId} {v : Value} {fuel R : Nat} {x : DataW H × List MemPlace} (ht : P.underlying t = some (.slice e)) (hC : P.cellsOf e = L.k)
  (hopen : ∀ n cs y, DataW.trod enc P w base spare held n e cs = some y → ∃ x, cs = L.g x) (hv : Cell.okWide P w r b0 t v) (h : DataW.trod enc P w base spare held fuel t [v] = some x) (hpos : 0 < w.heap.size) (hw : ∀ n ∈ x.1.weights P t, n ≤ R) :
  ∃ y : WinL α, y.good L w ∧ y.l.length * P.bytesOf e ≤ R ∧ ∀ (E : Env) (k : Nat), E.dom k → E.ρ k = y.b → E.sh k = y.off → VR E (y.sl k) v := by
 obtain ⟨y, h1, h2⟩ := open_winl L ht hC hopen hv h hpos
 refine ⟨y, h1, ?_, h2⟩
 have hvr := h2 ⟨fun _ => True, fun _ => y.b, fun _ => 0, fun _ => 0, fun _ => y.off, fun _ => False, fun _ => none⟩ 0 trivial rfl rfl
 rcases open_slice ht h with ⟨h0, _⟩ | ⟨a, len, cap, m, n, D, Pl, hcs, _, _, _, _, hx, _⟩
 ·simp only [List.cons.injEq, and_true] at h0
  subst h0
  have : y.l.length = 0 := Nat.le_zero.1 (zRm (b := 0) (o := 0) (c := y.c) hvr)
  rw [this, Nat.zero_mul]; exact Nat.zero_le _
 ·simp only [List.cons.injEq, and_true] at hcs
  subst hcs
  have hle : y.l.length ≤ len := zRm (b := 0) (o := 0) (c := y.c) hvr
  have hq := hw ((len + (m - len)) * P.bytesOf e) (by
   rw [hx]
   show _ ∈ DataW.weights P t (.slice _ _)
   unfold DataW.weights
   simp only [ht, List.length_map, List.length_range]
   exact List.mem_cons_self ..)
  exact Nat.le_trans (Nat.mul_le_mul_right _ (by omega)) hq
end
section
variable {H : Type} {enc : TypeId × Value → H} {w : World} {base : Nat} {spare : Nat → Bool} {held : Bool}
theorem weigh {ts : List TypeId} {ds : List (DataW H)} (h : (DataW.weightsEach Try.prog ts ds).all (· ≤ reachBytes) = true) {j : Nat} {t : TypeId} {d : DataW H} (ht : ts[j]? = some t) (hd : ds[j]? = some d) : ∀ n ∈ d.weights Try.prog t, n ≤ reachBytes := fun n hn => by
 have := List.all_eq_true.1 h n (DataW.weights_mem_each ht hd n hn)
 exact of_decide_eq_true this
end
end Go.Proofs.Ytpdeidlkeplegaa
namespace Go.Proofs.Ytpdeidlkeplegaa
open Go Go.Joins Go.ChangeShapes Go.WideShapes Go.RowKit Go.Deep
theorem zSw {α : Type} (L : Lay α) {w : World} {y : WinL α} (hg : y.good L w) {v : Value} (h : ∀ (E : Env) (k : Nat), E.dom k → E.ρ k = y.b → E.sh k = y.off → VR E (y.sl k) v) : VR (Env.all w) (treeV L.k y.l.length (y.l.flatMap L.g)) v := by
 obtain ⟨g1, g2, g3, g4⟩ := hg
 have hvr : VR ⟨fun _ => True, fun _ => y.b, fun _ => 0, fun _ => 0, fun _ => y.off, fun _ => False, fun _ => none⟩ (.slice (some ⟨0, 0, none⟩) y.l.length y.c) v := h ⟨fun _ => True, fun _ => y.b, fun _ => 0, fun _ => 0, fun _ => y.off, fun _ => False, fun _ => none⟩ 0 trivial rfl rfl
 have hlen := zAa L.g L.k L.len y.l
 have hpl := zCy L.g L.plain y.l
 have cell : ∀ j, j < (y.l.flatMap L.g).length → fzc (Env.all w).fz y.b (y.off + j) = some ((y.l.flatMap L.g).getD j undef) := fun j hj => by
  have := g2 j _ (List.getElem?_eq_getElem hj)
  rw [List.getD_eq_getElem?_getD, List.getElem?_eq_getElem hj, Option.getD_some, ← this]
  unfold fzc World.cell? Env.all
  rfl
 have dv : ∀ (j : Nat) (u : Value), (y.l.flatMap L.g)[j]? = some u → DV (Env.all w).fz u ((y.l.flatMap L.g).getD j undef) := fun j u hj => by
  rw [List.getD_eq_getElem?_getD, hj, Option.getD_some]
  exact .plain _ (List.all_eq_true.1 hpl u (List.mem_of_getElem? hj))
 have hmx : maxLen = 9223372036854775807 := by decide
 obtain ⟨_, ⟨_, rfl⟩ | ⟨hU, _⟩ | ⟨h0, _, a', _, rfl⟩⟩ := hvr.slice_inv
 ·exact .deep _ _ _ _ _ _ _ (.tree L.k _ y.c y.b y.off _ _ (fun j => (y.l.flatMap L.g).getD j undef) hlen g3 g4 (.inl rfl) cell dv)
 ·have : U = 1180591620717411303424 := rfl
  omega
 ·rw [h0]
  have hn : y.l = [] := List.eq_nil_of_length_eq_zero h0
  rw [hn]
  exact .deep _ _ _ _ _ _ _ (.tree L.k 0 0 0 0 [] _ (fun _ => undef) (by simp) (Nat.le_refl _) (Nat.zero_le _) (.inr ⟨rfl, fun _ => rfl⟩) (fun j hj => by simp at hj) (fun j u hj => by simp at hj))
end Go.Proofs.Ytpdeidlkeplegaa
namespace Go.Proofs.Ytpdeidlkeplegaa
open Go Go.Joins Go.ChangeShapes Go.WideShapes Go.RowKit Go.Deep
theorem zKa {H : Type} {P : Program} {e : TypeId} {d : DataW H} {q : Nat} (hq : q ∈ d.weights P e) : ∀ {l : List (DataW H)}, d ∈ l → q ∈ DataW.weightsAll P e l
 | x :: l, h => by
  unfold DataW.weightsAll
  rcases List.mem_cons.1 h with rfl | h
  ·exact List.mem_append_left _ hq
  ·exact List.mem_append_right _ (zKa hq h)
section
variable {P : Program} {H : Type} {enc : TypeId × Value → H} {w : World} {base : Nat} {spare : Nat → Bool} {held : Bool}
theorem zSj {α : Type} (L : Lay α) {r : Reach} {b0 : Nat} {t e : TypeId} {v : Value} {fuel R : Nat} {x : DataW H × List MemPlace} (Q : α → Prop) (ht : P.underlying t = some (.slice e)) (hC : P.cellsOf e = L.k)
  (hopen : ∀ n cs y, DataW.trod enc P w base spare held n e cs = some y → ∃ x, cs = L.g x) (hQ : ∀ n x y, DataW.trod enc P w base spare held n e (L.g x) = some y → (∀ q ∈ y.1.weights P e, q ≤ R) → Q x)
  (hv : Cell.okWide P w r b0 t v) (h : DataW.trod enc P w base spare held fuel t [v] = some x) (hpos : 0 < w.heap.size) (hw : ∀ n ∈ x.1.weights P t, n ≤ R) :
  ∃ y : WinL α, y.good L w ∧ y.l.length * P.bytesOf e ≤ R ∧ (∀ x ∈ y.l, Q x) ∧ ∀ (E : Env) (k : Nat), E.dom k → E.ρ k = y.b → E.sh k = y.off → VR E (y.sl k) v := by
 obtain ⟨y, h1, h2, h3⟩ := zSi L ht hC hopen hv h hpos hw
 refine ⟨y, h1, h2, ?_, h3⟩
 have hvr := h3 ⟨fun _ => True, fun _ => y.b, fun _ => 0, fun _ => 0, fun _ => y.off, fun _ => False, fun _ => none⟩ 0 trivial rfl rfl
 have hmx : maxLen = 9223372036854775807 := by decide
 intro z hz
 obtain ⟨i, hi, rfl⟩ := List.getElem_of_mem hz
 rcases open_slice ht h with ⟨h0, _⟩ | ⟨a, len, cap, m, n, D, Pl, hcs, _, hl, _, hm, hx, hel⟩
 ·simp only [List.cons.injEq, and_true] at h0
  subst h0
  have : y.l.length = 0 := Nat.le_zero.1 (zRm (b := 0) (o := 0) (c := y.c) hvr)
  omega
 ·simp only [List.cons.injEq, and_true] at hcs
  subst hcs
  have hle : y.l.length ≤ len := zRm (b := 0) (o := 0) (c := y.c) hvr
  have hlm : len ≤ m := by rw [hm]; split <;> omega
  have hab : a = ⟨y.b, y.off, none⟩ := by
   have hvr : VR ⟨fun _ => True, fun _ => y.b, fun _ => 0, fun _ => 0, fun _ => y.off, fun _ => False, fun _ => none⟩ (.slice (some ⟨0, 0, none⟩) y.l.length y.c) (.slice (some a) len cap) := hvr
   obtain ⟨_, ⟨_, e⟩ | ⟨hU, _⟩ | ⟨h0, _⟩⟩ := hvr.slice_inv
   ·simp only [Value.slice.injEq, Option.some.injEq] at e
    exact e.1
   ·obtain ⟨_, _, _, hc⟩ := h1
    have : U = 1180591620717411303424 := rfl
    omega
   ·omega
  subst hab
  obtain ⟨cs', q1, q2⟩ := hel i (by omega)
  obtain ⟨z', rfl⟩ := hopen _ _ _ q2
  obtain ⟨_, hcl, hat⟩ := World.cells?_some q1
  have hzz : z' = y.l[i] := by
   refine L.inj _ _ (List.ext_getElem? fun j => ?_)
   by_cases hj : j < L.k
   ·have e1 := hat j (by rw [hC]; exact hj)
    rw [← e1, zAi, zAi]
    obtain ⟨p1, p2⟩ := zMb L.g L.k L.len y.l i hi
    have e2 : (y.l.flatMap L.g)[i * L.k + j]? = (L.g y.l[i])[j]? := by rw [← p2, List.getElem?_take_of_lt hj, List.getElem?_drop]
    have e3 := List.getElem?_eq_getElem (l := L.g y.l[i]) (i := j) (by rw [L.len]; exact hj)
    rw [e3] at e2 ⊢
    have := h1.2.1 (i * L.k + j) _ e2
    rw [hC, Nat.add_assoc]; exact this
   ·rw [List.getElem?_eq_none (by rw [L.len]; omega), List.getElem?_eq_none (by rw [L.len]; omega)]
  rw [← hzz]
  refine hQ _ _ _ q2 fun q hq => hw q ?_
  rw [hx]
  show q ∈ DataW.weights P t (.slice _ _)
  unfold DataW.weights
  simp only [ht]
  refine List.mem_cons_of_mem _ (List.mem_append_left _ (zKa hq (List.mem_map.2 ⟨i, List.mem_range.2 (by omega), rfl⟩)))
end
structure ActC where
 k : Int
 n : Int
 now : Int
 is : Bool
def layAct : Lay ActC := ⟨fun x => [.int .i64 x.k, .int .i64 x.n, .int .i64 x.now, .bool x.is], 4, 38, fun _ => rfl, by decide, fun _ => rfl, fun x y h => by
 obtain ⟨a, b, c, d⟩ := x
 obtain ⟨a', b', c', d'⟩ := y
 simp only [List.cons.injEq, Value.int.injEq, Value.bool.injEq, true_and, and_true] at h
 obtain ⟨rfl, rfl, rfl, rfl⟩ := h
 rfl⟩
def trAct (l : List ActC) : Value := treeV 4 l.length (l.flatMap layAct.g)
section
variable {H : Type} {enc : TypeId × Value → H} {w : World} {base : Nat} {spare : Nat → Bool} {held : Bool}
theorem zRl {n : Nat} {cs : List Value} {y : DataW H × List MemPlace} (h : DataW.trod enc Try.prog w base spare held n 38 cs = some y) : ∃ x : ActC, cs = layAct.g x ∧ (Lit.int .i64 x.n).wf = true := by
 obtain ⟨_, _, _, _, hl, _⟩ := DataW.trod_struct Try.underlying38 h
 have hl : cs.length = 4 := hl.trans (by kernel_rfl)
 have hf := zKr 8 38 [3, 3, 3, 4] n cs y (by kernel_rfl) h hl
 match cs, hl with
 | [c0, c1, c2, c3], _ =>
  obtain ⟨_, _, h0, _⟩ := hf 0 _ _ rfl rfl
  obtain ⟨_, _, h1, _⟩ := hf 1 _ _ rfl rfl
  obtain ⟨_, _, h2, _⟩ := hf 2 _ _ rfl rfl
  obtain ⟨_, _, h3, _⟩ := hf 3 _ _ rfl rfl
  obtain ⟨x0, e0, _⟩ := DataW.trod_int Try.underlying3 h0
  obtain ⟨x1, e1, _, w1⟩ := DataW.trod_int Try.underlying3 h1
  obtain ⟨x2, e2, _⟩ := DataW.trod_int Try.underlying3 h2
  obtain ⟨x3, e3, _⟩ := DataW.trod_bool Try.underlying4 h3
  simp only [List.cons.injEq, and_true] at e0 e1 e2 e3
  subst e0; subst e1; subst e2; subst e3
  exact ⟨⟨x0, x1, x2, x3⟩, rfl, w1⟩
theorem zRt : Try.prog.bytesOf 38 = 32 := by kernel_rfl
theorem open_actsC {r : Reach} {b0 : Nat} {v : Value} {d : DataW H} {p : List MemPlace} (hpos : 0 < w.heap.size) (hv : Value.okWide Try.prog w r b0 33 v) (h : DataW.Trod enc Try.prog w base spare held 33 v d p) (hw : ∀ n ∈ d.weights Try.prog 33, n ≤ reachBytes) :
  ∃ l : List ActC, (l.length ≤ 100000000000000 ∧ ∀ x ∈ l, -9223372036854775808 ≤ x.n ∧ x.n ≤ 9223372036854775807) ∧ VR (Env.all w) (trAct l) v := by
 obtain ⟨n, h⟩ := zKd Try.underlying33 hv h
 have hR : reachBytes = 140737488351232 := by decide
 obtain ⟨y, g, s, hq, e⟩ := zSj layAct (fun x => (Lit.int .i64 x.n).wf = true) Try.underlying33 (by kernel_rfl) (fun _ _ _ hy => by obtain ⟨x, e, _⟩ := zRl hy; exact ⟨x, e⟩) (fun _ x y hy _ => by obtain ⟨x', e, hx⟩ := zRl hy; rw [layAct.inj _ _ e]; exact hx) (zPd Try.underlying33 hv) h hpos hw
 have s : y.l.length * 32 ≤ reachBytes := zRt ▸ s
 refine ⟨y.l, ⟨by omega, fun x hx => ?_⟩, zSw layAct g e⟩
 have := hq x hx
 have e1 : IntKind.min .i64 = -9223372036854775808 := by decide
 have e2 : IntKind.max .i64 = 9223372036854775807 := by decide
 simp only [Lit.wf, Bool.and_eq_true, decide_eq_true_eq, e1, e2] at this
 exact this
end
end Go.Proofs.Ytpdeidlkeplegaa
