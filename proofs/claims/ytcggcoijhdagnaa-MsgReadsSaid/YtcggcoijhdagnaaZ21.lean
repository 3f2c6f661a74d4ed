/- DERIVED. Parts. -/
import Derived.SizedLaws
import Derived.Test.YtcggcoijhdagnaaZ12
import Derived.Test.YtcggcoijhdagnaaZ13
import Derived.Test.YtcggcoijhdagnaaZ15
import Derived.Test.YtcggcoijhdagnaaZ19
import Derived.Test.YtcggcoijhdagnaaZ20
set_option maxRecDepth 1000000
set_option maxHeartbeats 32000000
namespace Go.Proofs.Ytcggcoijhdagnaa
section
open Go Go.Joins Go.ChangeShapes Go.WideShapes Go.RowKit Go.Deep
section
variable {H : Type} {enc : TypeId × Value -> H} {P : Program} {w : World} {base : Nat} {spare : Nat -> Bool} {held : Bool}
theorem vr_len {E : Env} {b o n c len cap : Nat} {a : Option Addr} (h : VR E (.slice (some ⟨b, o, none⟩) n c) (.slice a len cap)) : n <= len := by
 cases h <;> first | exact aJ _ | exact aH _
theorem zVh {α : Type} (L : Lay α) {r : Reach} {b0 : Nat} {t e : TypeId} {v : Value} {fuel R : Nat} {x : DataW H × List MemPlace} (ht : P.underlying t = some (.slice e)) (hC : P.cellsOf e = L.k)
  (hopen : ∀ n cs y, DataW.trod enc P w base spare held n e cs = some y -> ∃ x, cs = L.g x) (hv : Cell.okWide P w r b0 t v) (h : DataW.trod enc P w base spare held fuel t [v] = some x) (hpos : 0 < w.heap.size) (hw : ∀ n ∈ x.1.weights P t, n <= R) :
  ∃ y : WinL α, y.good L w /\ y.l.length * P.bytesOf e <= R /\ ∀ (E : Env) (k : Nat), E.dom k -> E.ρ k = y.b -> E.sh k = y.off -> VR E (y.sl k) v := by
 obtain ⟨y, h1, h2⟩ := open_winl L ht hC hopen hv h hpos
 refine ⟨y, h1, ?_, h2⟩
 have hvr := h2 ⟨fun _ => True, fun _ => y.b, fun _ => 0, fun _ => 0, fun _ => y.off, fun _ => False, fun _ => none⟩ 0 trivial rfl rfl
 rcases open_slice ht h with ⟨h0, _⟩ | ⟨a, len, cap, m, n, D, Pl, hcs, _, _, _, _, hx, _⟩
 ·simp only [aQ, and_true] at h0
  subst h0
  have : y.l.length = 0 := Nat.le_zero.1 (vr_len (b := 0) (o := 0) (c := y.c) hvr)
  rw [this, Nat.zero_mul]; exact aH _
 simp only [aQ, and_true] at hcs
 subst hcs
 have hle : y.l.length <= len := vr_len (b := 0) (o := 0) (c := y.c) hvr
 have hq := hw ((len + (m - len)) * P.bytesOf e) (by
  rw [hx]
  show _ ∈ DataW.weights P t (.slice _ _)
  unfold DataW.weights
  simp only [ht, aT, List.length_range]
  exact List.mem_cons_self ..)
 exact aW (Nat.mul_le_mul_right _ (by omega)) hq
end
section
variable {H : Type} {enc : TypeId × Value -> H} {w : World} {base : Nat} {spare : Nat -> Bool} {held : Bool}
theorem weigh {ts : List TypeId} {ds : List (DataW H)} (h : (DataW.weightsEach Try.prog ts ds).all (· <= reachBytes) = true) {j : Nat} {t : TypeId} {d : DataW H} (ht : ts[j]? = some t) (hd : ds[j]? = some d) : ∀ n ∈ d.weights Try.prog t, n <= reachBytes := fun n hn => by
 have := aG.1 h n (DataW.weights_mem_each ht hd n hn)
 exact oT this
end
end
section
open Go Go.Joins Go.ChangeShapes Go.WideShapes Go.RowKit Go.Deep
theorem zVx {α : Type} (L : Lay α) {w : World} {y : WinL α} (hg : y.good L w) {v : Value} (h : ∀ (E : Env) (k : Nat), E.dom k -> E.ρ k = y.b -> E.sh k = y.off -> VR E (y.sl k) v) : VR (Env.all w) (treeV L.k y.l.length (y.l.flatMap L.g)) v := by
 obtain ⟨g1, g2, g3, g4⟩ := hg
 have hvr : VR ⟨fun _ => True, fun _ => y.b, fun _ => 0, fun _ => 0, fun _ => y.off, fun _ => False, fun _ => none⟩ (.slice (some ⟨0, 0, none⟩) y.l.length y.c) v := h ⟨fun _ => True, fun _ => y.b, fun _ => 0, fun _ => 0, fun _ => y.off, fun _ => False, fun _ => none⟩ 0 trivial rfl rfl
 have hlen := zAc L.g L.k L.len y.l
 have hpl := zAf L.g L.plain y.l
 have cell : ∀ j, j < (y.l.flatMap L.g).length -> fzc (Env.all w).fz y.b (y.off + j) = some ((y.l.flatMap L.g).getD j undef) := fun j hj => by
  have := g2 j _ (gG hj)
  rw [List.getD_eq_getElem?_getD, gG hj, Option.getD_some, <- this]
  unfold fzc World.cell? Env.all
  rfl
 have dv : ∀ (j : Nat) (u : Value), (y.l.flatMap L.g)[j]? = some u -> DV (Env.all w).fz u ((y.l.flatMap L.g).getD j undef) := fun j u hj => by
  rw [List.getD_eq_getElem?_getD, hj, Option.getD_some]
  exact .plain _ (aG.1 hpl u (List.mem_of_getElem? hj))
 have hmx : maxLen = 9223372036854775807 := by decide
 obtain ⟨_, ⟨_, rfl⟩ | ⟨hU, _⟩ | ⟨h0, _, a', _, rfl⟩⟩ := hvr.slice_inv
 ·exact .deep _ _ _ _ _ _ _ (.tree L.k _ y.c y.b y.off _ _ (fun j => (y.l.flatMap L.g).getD j undef) hlen g3 g4 (.inl rfl) cell dv)
 ·have : U = 1180591620717411303424 := rfl
  omega
 rw [h0]
 have hn : y.l = [] := List.eq_nil_of_length_eq_zero h0
 rw [hn]
 exact .deep _ _ _ _ _ _ _ (.tree L.k 0 0 0 0 [] _ (fun _ => undef) (by simp) (aJ _) (aH _) (.inr ⟨rfl, rfl⟩) (fun j hj => by simp at hj) (fun j u hj => by simp at hj))
end
section
open Go Go.Joins Go.ChangeShapes Go.WideShapes Go.RowKit Go.Deep
section
variable {H : Type} {enc : TypeId × Value -> H} {w : World} {base : Nat} {spare : Nat -> Bool} {held : Bool}
end
end
section
open Go Go.RowKit
section
open Go.Joins Go.ChangeShapes Go.WideShapes Go.Deep
variable {H : Type} {enc : TypeId × Value -> H} {w : World} {base : Nat} {spare : Nat -> Bool} {held : Bool}
theorem bytes_yT : Try.prog.bytesOf 5 = 1 := by kernel_rfl
theorem open_bytesT {r : Reach} {b0 : Nat} {v : Value} {d : DataW H} {p : List MemPlace} (hpos : 0 < w.heap.size) (hv : Value.okWide Try.prog w r b0 28 v) (h : DataW.Trod enc Try.prog w base spare held 28 v d p) (hw : ∀ n ∈ d.weights Try.prog 28, n <= reachBytes) :
  ∃ l : Bl, l.length <= 140737488351232 /\ VR (Env.all w) (trB l) v := by
 obtain ⟨n, h⟩ := zKw Try.underlying28 hv h
 have hR : reachBytes = 140737488351232 := by decide
 obtain ⟨y, g, s, e⟩ := zVh layBy Try.underlying28 (by kernel_rfl) (fun _ cs _ hy => by
  obtain ⟨x, rfl, _, hw⟩ := DataW.trod_int Try.underlying5 hy
  obtain ⟨b, rfl⟩ := byte_of hw
  exact ⟨b, rfl⟩) (zRq Try.underlying28 hv) h hpos hw
 have s : y.l.length * 1 <= reachBytes := bytes_yT ▸ s
 exact ⟨y.l, by omega, zVx layBy g e⟩
end
end
section
open Go Go.RowKit
def hdV (B : Bl) : Value := .tuple #[.int .i64 (if 12 <= B.length then (numAt B 0 2 : Nat) else 0 : Int), .int .i64 (if 12 <= B.length then (numAt B 2 2 : Nat) else 0 : Int), .bool (decide (12 <= B.length))]
noncomputable def tbMr5 : Tb Try.prog 0 := tbOf mixed [zOc, zLk]
theorem headA_fn (B : Bl) (hB : B.length <= 1000000) : ∃ r, FnS Try.prog 0 36 [trB B] .e 0 r /\ ∃ H k wr, r = .ret (hdV B) H k wr := by
 refine zAu mixed tbMr5 [] Try.func36 (c := bodyOf Try.f36) (by kernel_rfl) ?_
 refine ifK (fun g => ?_) (fun g => ?_)
 ·have g : ((B.length : Nat) : Int) < 12 := oT g
  have e : hdV B = .tuple #[.int .i64 0, .int .i64 0, .bool false] := by unfold hdV; rw [if_neg (by omega), if_neg (by omega), aY (by omega)]
  rw [e]; exact ⟨_, _, _, rfl⟩
 have g : ¬ ((B.length : Nat) : Int) < 12 := oF g
 have h : 12 <= B.length := by omega
 have hne : B ≠ [] := fun e => by rw [e] at h; exact ab h (by decide)
 have e : hdV B = .tuple #[.int .i64 (numAt B 0 2 : Nat), .int .i64 (numAt B 2 2 : Nat), .bool true] := by unfold hdV; rw [if_pos h, if_pos h, aX h]
 rw [e]
 refine eI (B, (0 : Int)) (aI ⟨rfl, hne, hB, (show (0 : Int) <= 0 by decide), by show 0 + 2 <= B.length; omega⟩ ?_)
 refine eI (B, (2 : Int)) (aI ⟨rfl, hne, hB, (show (0 : Int) <= 2 by decide), by show 2 + 2 <= B.length; omega⟩ ?_)
 exact ⟨_, _, _, rfl⟩
theorem rheadA_fn (B : Bl) (hB : B.length <= 1000000) : ∃ r, FnS Try.prog 0 37 [trB B] .e 0 r /\ ∃ H k wr, r = .ret (hdV B) H k wr := by
 refine zAu mixed tbMr5 [] Try.func37 (c := bodyOf Try.f37) (by kernel_rfl) ?_
 refine ifK (fun g => ?_) (fun g => ?_)
 ·have g : ((B.length : Nat) : Int) < 12 := oT g
  have e : hdV B = .tuple #[.int .i64 0, .int .i64 0, .bool false] := by unfold hdV; rw [if_neg (by omega), if_neg (by omega), aY (by omega)]
  rw [e]; exact ⟨_, _, _, rfl⟩
 have g : ¬ ((B.length : Nat) : Int) < 12 := oF g
 have h : 12 <= B.length := by omega
 have hne : B ≠ [] := fun e => by rw [e] at h; exact ab h (by decide)
 have e : hdV B = .tuple #[.int .i64 (numAt B 0 2 : Nat), .int .i64 (numAt B 2 2 : Nat), .bool true] := by unfold hdV; rw [if_pos h, if_pos h, aX h]
 rw [e]
 refine eI (B, (0 : Int)) (aI ⟨rfl, hne, hB, (show (0 : Int) <= 0 by decide), by show 0 + 2 <= B.length; omega⟩ ?_)
 refine eI (B, (2 : Int)) (aI ⟨rfl, hne, hB, (show (0 : Int) <= 2 by decide), by show 2 + 2 <= B.length; omega⟩ ?_)
 exact ⟨_, _, _, rfl⟩
noncomputable def ct_hdA (f : FuncId) (ok : ∀ B : Bl, B.length <= 1000000 -> ∃ r, FnS Try.prog 0 f [trB B] .e 0 r /\ ∃ H k wr, r = .ret (hdV B) H k wr) : Ct Try.prog 0 := CtR.lend f (Bl × Value) (fun x => [x.2]) (fun x H => LtL layBy H x.2 x.1) (fun x => [trB x.1]) (fun x => x.1.length <= 1000000) (fun x => hdV x.1)
 (fun ⟨B, v⟩ ⟨C, u⟩ H e h k => by
  simp only [aQ, and_true] at e
  have e : v = u := e
  subst e
  rw [show B = C from LtL.uniq h k]) (fun x H h => .cons _ _ _ _ (LtL.frz (by kernel_rfl) h) .nil) (fun x h => by obtain ⟨r, hF, H, k, wr, rfl⟩ := ok x.1 h; exact ⟨_, H, k, wr, hF, .one _ _ (.plain _ rfl)⟩)
noncomputable def ct_headA : Ct Try.prog 0 := ct_hdA 36 headA_fn
noncomputable def ct_rheadA : Ct Try.prog 0 := ct_hdA 37 rheadA_fn
noncomputable def tbMr6 : Tb Try.prog 0 := tbOf mixed [ct_overK 1 2 3 4 [1, 2, 3, 4, 5, 6, 8], Ct.yes 19 zNv, zSw, zUu, zQm, ct_headA, ct_rheadA, ct_sameML, ct_keptT]
theorem zTo {α : Type} (L : Lay α) {H : Tr AObj} {b : Nat} {l : List α} (hb : b < JJ) (h : H.get b = lsO L l) : LtL L H (lsV b l) l := by
 cases l with
 | nil => exact .nil _ _
 | cons x l => exact LtL.own L [] hb (.inl rfl) h (by rw [aF])
def rdL (m : MsT) (b1 b2 b3 b4 : Nat) : LtM := ⟨m, lsV b1 m.q, lsV b2 m.an, lsV b3 m.ns, lsV b4 m.ar⟩
theorem zAz (m : MsT) (b1 b2 b3 b4 : Nat) (hb : b1 < JJ /\ b2 < JJ /\ b3 < JJ /\ b4 < JJ) (H : Tr AObj) (h : H.get b1 = lsO layQ m.q /\ H.get b2 = lsO layR m.an /\ H.get b3 = lsO layR m.ns /\ H.get b4 = lsO layR m.ar) : (rdL m b1 b2 b3 b4).at H :=
 ⟨zTo layQ hb.1 h.1, zTo layR hb.2.1 h.2.1, zTo layR hb.2.2.1 h.2.2.1, zTo layR hb.2.2.2 h.2.2.2⟩
theorem zM_fit5 : zM.fit 1000000 := ⟨aH _, aH _, aH _, aH _⟩
theorem zCe {B : Bl} {m : MsT} {e p : Int} (h : msQ B m e p) : m.fit 1000000 := by
 have hl : ∀ k, numAt B k 2 < 65536 := zDc B
 cases h with
 | fine h hl2 hf => obtain ⟨_, _, h1, h2, h3, h4⟩ := hf; exact ⟨by rw [h1]; have := hl 4; omega, by rw [h2]; have := hl 6; omega, by rw [h3]; have := hl 8; omega, by rw [h4]; have := hl 10; omega⟩
 | _ => exact zM_fit5
theorem zCd {B : Bl} (hB : B.length <= 1000000) (k : Nat) (H : Tr AObj) (hk : k < JJ) (h : H.get k = some (.cells ((lentL B).map byV) 5)) : LtL layBy H (.slice (some ⟨k, 0, none⟩) B.length (B.length + 3)) B := LtL.own (l := B) layBy (((List.range 3).map fun j => markB (B.length + j)).map byV) hk (.inr ⟨by omega, by rw [show maxLen = 9223372036854775807 by decide]; omega⟩) h (by rw [zHv, <- List.map_append]; rfl)
theorem mreads_e (B : Bl) (hB : B.length <= 70000) (m : MsT) (e p : Int) (he : e ≠ 0) (hq : msQ B m e p) : ∃ r, FnS Try.prog 0 7 [trB B] .e 0 r /\ ∃ H k wr, r = .ret (.bool true) H k wr := by
 refine zAu mixed tbMr6 [] Try.func7 (c := bodyOf Try.f7) (by kernel_rfl) ?_
 refine ifK (fun g2 => ?_) (fun g2 => ?_)
 ·exact ⟨_, _, _, rfl⟩
 refine eI B (aI ⟨rfl, by show B.length <= _; omega⟩ ?_)
 have hB6 : B.length <= 1000000 := by omega
 have at0 := fun k H => zCd hB6 k H
 have hfit := zCe hq
 refine eI ((B, .slice (some ⟨0, 0, none⟩) B.length (B.length + 3)), (m, e, p), false) (aI ⟨rfl, at0 0 _ (by decide) (by kernel_rfl), hB6, hq, (aY he).symm⟩ ?_)
 have hm := msQ_bad hq he
 subst hm
 refine eI B (aI ⟨rfl, hB6⟩ ?_)
 refine fun ⟨m2, e2, p2⟩ hq2 => ?_
 obtain ⟨z1, z2, z3⟩ := hq.det hq2
 subst z1 z2 z3
 refine eI (B, .slice (some ⟨0, 0, none⟩) B.length (B.length + 3)) (aI ⟨rfl, at0 0 _ (by decide) (by kernel_rfl), hB6⟩ ?_)
 refine eI (B, trB B) (aI ⟨rfl, .tree _ _ _, hB6⟩ ?_)
 refine eI ((⟨zM, .slice none 0 0, .slice none 0 0, .slice none 0 0, .slice none 0 0⟩ : LtM), zM.lt) (aI ⟨rfl, ⟨⟨.nil _ _, .nil _ _, .nil _ _, .nil _ _⟩, zM.lt_at _⟩, hfit⟩ ?_)
 refine aI (by kernel_rfl) ?_
 refine ifK (fun _ => ?_) (fun h => ab h (by simp))
 refine ifK (fun _ => ?_) (fun h => ab h (by simp))
 refine ifK (fun _ => ?_) (fun h => ab h (by simp))
 refine eI ((B, trB B), (zM, e, p), false) (aI ⟨rfl, .tree _ _ _, hB6, hq, (aY he).symm⟩ ?_)
 refine ifK (fun _ => ?_) (fun h => ab h (by simp))
 refine eI ((⟨zM, .slice none 0 0, .slice none 0 0, .slice none 0 0, .slice none 0 0⟩ : LtM), zM.lt) (aI ⟨rfl, ⟨⟨.nil _ _, .nil _ _, .nil _ _, .nil _ _⟩, zM.lt_at _⟩, hfit⟩ ?_)
 refine eI (B, 0) (aI ⟨rfl, by kernel_rfl, by show B.length <= _; omega⟩ ?_)
 exact ⟨_, _, _, rfl⟩
end
section
open Go Go.RowKit
theorem zQy (B : Bl) (hB : B.length <= 70000) (p id fl : Int) (hq : msQ B ⟨id, fl, [], [], [], []⟩ 0 p) : ∃ r, FnS Try.prog 0 7 [trB B] .e 0 r /\ ∃ H k wr, r = .ret (.bool true) H k wr := by
 refine zAu mixed tbMr6 [] Try.func7 (c := bodyOf Try.f7) (by kernel_rfl) ?_
 refine ifK (fun g2 => ?_) (fun g2 => ?_)
 ·exact ⟨_, _, _, rfl⟩
 refine eI B (aI ⟨rfl, by show B.length <= _; omega⟩ ?_)
 have hB6 : B.length <= 1000000 := by omega
 have at0 := fun k H => zCd hB6 k H
 have hfit := zCe hq
 refine eI ((B, .slice (some ⟨0, 0, none⟩) B.length (B.length + 3)), (⟨id, fl, [], [], [], []⟩, 0, p), true) (aI ⟨rfl, at0 0 _ (by decide) (by kernel_rfl), hB6, hq, rfl⟩ ?_)
 refine eI B (aI ⟨rfl, hB6⟩ ?_)
 refine fun ⟨m2, e2, p2⟩ hq2 => ?_
 obtain ⟨z1, z2, z3⟩ := hq.det hq2
 subst z1 z2 z3
 refine eI (B, .slice (some ⟨0, 0, none⟩) B.length (B.length + 3)) (aI ⟨rfl, at0 0 _ (by decide) (by kernel_rfl), hB6⟩ ?_)
 refine eI (B, trB B) (aI ⟨rfl, .tree _ _ _, hB6⟩ ?_)
 refine eI (rdL ⟨id, fl, [], [], [], []⟩ 1 2 3 4, MsT.lt ⟨id, fl, [], [], [], []⟩) (aI ⟨rfl, ⟨zAz _ 1 2 3 4 (by decide) _ ⟨by kernel_rfl, by kernel_rfl, by kernel_rfl, by kernel_rfl⟩, MsT.lt_at _ _⟩, hfit⟩ ?_)
 refine ifK (fun _ => ?_) (fun h => ab (show MsT.same ⟨id, fl, [], [], [], []⟩ ⟨id, fl, [], [], [], []⟩ = false from h) (by rw [MsT.same_refl]; simp))
 refine aI (by kernel_rfl) ?_
 refine ifK (fun _ => ?_) (fun h => ab h (by simp))
 refine ifK (fun _ => ?_) (fun h => ab h (by simp))
 refine ifK (fun _ => ?_) (fun h => ab h (by simp))
 refine eI ((B, trB B), (⟨id, fl, [], [], [], []⟩, 0, p), true) (aI ⟨rfl, .tree _ _ _, hB6, hq, rfl⟩ ?_)
 refine ifK (fun _ => ?_) (fun h => ab h (by simp))
 refine eI (rdL ⟨id, fl, [], [], [], []⟩ 11 12 13 14, MsT.lt ⟨id, fl, [], [], [], []⟩) (aI ⟨rfl, ⟨zAz _ 11 12 13 14 (by decide) _ ⟨by kernel_rfl, by kernel_rfl, by kernel_rfl, by kernel_rfl⟩, MsT.lt_at _ _⟩, hfit⟩ ?_)
 refine ifK (fun _ => ?_) (fun h => ab (show MsT.same ⟨id, fl, [], [], [], []⟩ ⟨id, fl, [], [], [], []⟩ = false from h) (by rw [MsT.same_refl]; simp))
 refine eI (B, 0) (aI ⟨rfl, by kernel_rfl, by show B.length <= _; omega⟩ ?_)
 exact ⟨_, _, _, rfl⟩
theorem zQz (B : Bl) (hB : B.length <= 70000) (p id fl : Int) (r0 : RcX) (rs : List RcX) (hq : msQ B ⟨id, fl, [], [], [], r0 :: rs⟩ 0 p) : ∃ r, FnS Try.prog 0 7 [trB B] .e 0 r /\ ∃ H k wr, r = .ret (.bool true) H k wr := by
 refine zAu mixed tbMr6 [] Try.func7 (c := bodyOf Try.f7) (by kernel_rfl) ?_
 refine ifK (fun g2 => ?_) (fun g2 => ?_)
 ·exact ⟨_, _, _, rfl⟩
 refine eI B (aI ⟨rfl, by show B.length <= _; omega⟩ ?_)
 have hB6 : B.length <= 1000000 := by omega
 have at0 := fun k H => zCd hB6 k H
 have hfit := zCe hq
 refine eI ((B, .slice (some ⟨0, 0, none⟩) B.length (B.length + 3)), (⟨id, fl, [], [], [], r0 :: rs⟩, 0, p), true) (aI ⟨rfl, at0 0 _ (by decide) (by kernel_rfl), hB6, hq, rfl⟩ ?_)
 refine eI B (aI ⟨rfl, hB6⟩ ?_)
 refine fun ⟨m2, e2, p2⟩ hq2 => ?_
 obtain ⟨z1, z2, z3⟩ := hq.det hq2
 subst z1 z2 z3
 refine eI (B, .slice (some ⟨0, 0, none⟩) B.length (B.length + 3)) (aI ⟨rfl, at0 0 _ (by decide) (by kernel_rfl), hB6⟩ ?_)
 refine eI (B, trB B) (aI ⟨rfl, .tree _ _ _, hB6⟩ ?_)
 refine eI (rdL ⟨id, fl, [], [], [], r0 :: rs⟩ 1 2 3 4, MsT.lt ⟨id, fl, [], [], [], r0 :: rs⟩) (aI ⟨rfl, ⟨zAz _ 1 2 3 4 (by decide) _ ⟨by kernel_rfl, by kernel_rfl, by kernel_rfl, by kernel_rfl⟩, MsT.lt_at _ _⟩, hfit⟩ ?_)
 refine ifK (fun _ => ?_) (fun h => ab (show MsT.same ⟨id, fl, [], [], [], r0 :: rs⟩ ⟨id, fl, [], [], [], r0 :: rs⟩ = false from h) (by rw [MsT.same_refl]; simp))
 refine aI (by kernel_rfl) ?_
 refine ifK (fun _ => ?_) (fun h => ab h (by simp))
 refine ifK (fun _ => ?_) (fun h => ab h (by simp))
 refine ifK (fun _ => ?_) (fun h => ab h (by simp))
 refine eI (⟨id, fl, [], [], [], r0 :: rs⟩, 5, 6, 8, 4) (aI ⟨rfl, (show [5, 6, 8, 4].Nodup /\ ∀ c ∈ [5, 6, 8, 4], c ∈ [1, 2, 3, 4, 5, 6, 8] by decide), ⟨⟨25, by kernel_rfl, zDn⟩, ⟨48, by kernel_rfl, zBy⟩, ⟨48, by kernel_rfl, zBy⟩, ⟨rfl, by kernel_rfl⟩⟩, hfit⟩ ?_)
 refine eI ((B, trB B), (⟨id, fl, [], [], [], r0 :: rs⟩, 0, p), true) (aI ⟨rfl, .tree _ _ _, hB6, hq, rfl⟩ ?_)
 refine ifK (fun _ => ?_) (fun h => ab h (by simp))
 refine eI (rdL ⟨id, fl, [], [], [], r0 :: rs⟩ 9 10 11 12, MsT.lt ⟨id, fl, [], [], [], r0 :: rs⟩) (aI ⟨rfl, ⟨zAz _ 9 10 11 12 (by decide) _ ⟨by kernel_rfl, by kernel_rfl, by kernel_rfl, by kernel_rfl⟩, MsT.lt_at _ _⟩, hfit⟩ ?_)
 refine ifK (fun _ => ?_) (fun h => ab (show MsT.same ⟨id, fl, [], [], [], r0 :: rs⟩ ⟨id, fl, [], [], [], r0 :: rs⟩ = false from h) (by rw [MsT.same_refl]; simp))
 refine eI (B, 0) (aI ⟨rfl, by kernel_rfl, by show B.length <= _; omega⟩ ?_)
 exact ⟨_, _, _, rfl⟩
theorem zRa (B : Bl) (hB : B.length <= 70000) (p id fl : Int) (n0 : RcX) (ns1 : List RcX) (hq : msQ B ⟨id, fl, [], [], n0 :: ns1, []⟩ 0 p) : ∃ r, FnS Try.prog 0 7 [trB B] .e 0 r /\ ∃ H k wr, r = .ret (.bool true) H k wr := by
 refine zAu mixed tbMr6 [] Try.func7 (c := bodyOf Try.f7) (by kernel_rfl) ?_
 refine ifK (fun g2 => ?_) (fun g2 => ?_)
 ·exact ⟨_, _, _, rfl⟩
 refine eI B (aI ⟨rfl, by show B.length <= _; omega⟩ ?_)
 have hB6 : B.length <= 1000000 := by omega
 have at0 := fun k H => zCd hB6 k H
 have hfit := zCe hq
 refine eI ((B, .slice (some ⟨0, 0, none⟩) B.length (B.length + 3)), (⟨id, fl, [], [], n0 :: ns1, []⟩, 0, p), true) (aI ⟨rfl, at0 0 _ (by decide) (by kernel_rfl), hB6, hq, rfl⟩ ?_)
 refine eI B (aI ⟨rfl, hB6⟩ ?_)
 refine fun ⟨m2, e2, p2⟩ hq2 => ?_
 obtain ⟨z1, z2, z3⟩ := hq.det hq2
 subst z1 z2 z3
 refine eI (B, .slice (some ⟨0, 0, none⟩) B.length (B.length + 3)) (aI ⟨rfl, at0 0 _ (by decide) (by kernel_rfl), hB6⟩ ?_)
 refine eI (B, trB B) (aI ⟨rfl, .tree _ _ _, hB6⟩ ?_)
 refine eI (rdL ⟨id, fl, [], [], n0 :: ns1, []⟩ 1 2 3 4, MsT.lt ⟨id, fl, [], [], n0 :: ns1, []⟩) (aI ⟨rfl, ⟨zAz _ 1 2 3 4 (by decide) _ ⟨by kernel_rfl, by kernel_rfl, by kernel_rfl, by kernel_rfl⟩, MsT.lt_at _ _⟩, hfit⟩ ?_)
 refine ifK (fun _ => ?_) (fun h => ab (show MsT.same ⟨id, fl, [], [], n0 :: ns1, []⟩ ⟨id, fl, [], [], n0 :: ns1, []⟩ = false from h) (by rw [MsT.same_refl]; simp))
 refine aI (by kernel_rfl) ?_
 refine ifK (fun _ => ?_) (fun h => ab h (by simp))
 refine ifK (fun _ => ?_) (fun h => ab h (by simp))
 refine ifK (fun _ => ?_) (fun h => ab h (by simp))
 refine eI (⟨id, fl, [], [], n0 :: ns1, []⟩, 5, 6, 3, 8) (aI ⟨rfl, (show [5, 6, 3, 8].Nodup /\ ∀ c ∈ [5, 6, 3, 8], c ∈ [1, 2, 3, 4, 5, 6, 8] by decide), ⟨⟨25, by kernel_rfl, zDn⟩, ⟨48, by kernel_rfl, zBy⟩, ⟨rfl, by kernel_rfl⟩, ⟨48, by kernel_rfl, zBy⟩⟩, hfit⟩ ?_)
 refine eI ((B, trB B), (⟨id, fl, [], [], n0 :: ns1, []⟩, 0, p), true) (aI ⟨rfl, .tree _ _ _, hB6, hq, rfl⟩ ?_)
 refine ifK (fun _ => ?_) (fun h => ab h (by simp))
 refine eI (rdL ⟨id, fl, [], [], n0 :: ns1, []⟩ 9 10 11 12, MsT.lt ⟨id, fl, [], [], n0 :: ns1, []⟩) (aI ⟨rfl, ⟨zAz _ 9 10 11 12 (by decide) _ ⟨by kernel_rfl, by kernel_rfl, by kernel_rfl, by kernel_rfl⟩, MsT.lt_at _ _⟩, hfit⟩ ?_)
 refine ifK (fun _ => ?_) (fun h => ab (show MsT.same ⟨id, fl, [], [], n0 :: ns1, []⟩ ⟨id, fl, [], [], n0 :: ns1, []⟩ = false from h) (by rw [MsT.same_refl]; simp))
 refine eI (B, 0) (aI ⟨rfl, by kernel_rfl, by show B.length <= _; omega⟩ ?_)
 exact ⟨_, _, _, rfl⟩
theorem zRb (B : Bl) (hB : B.length <= 70000) (p id fl : Int) (n0 : RcX) (ns1 : List RcX) (r0 : RcX) (rs : List RcX) (hq : msQ B ⟨id, fl, [], [], n0 :: ns1, r0 :: rs⟩ 0 p) : ∃ r, FnS Try.prog 0 7 [trB B] .e 0 r /\ ∃ H k wr, r = .ret (.bool true) H k wr := by
 refine zAu mixed tbMr6 [] Try.func7 (c := bodyOf Try.f7) (by kernel_rfl) ?_
 refine ifK (fun g2 => ?_) (fun g2 => ?_)
 ·exact ⟨_, _, _, rfl⟩
 refine eI B (aI ⟨rfl, by show B.length <= _; omega⟩ ?_)
 have hB6 : B.length <= 1000000 := by omega
 have at0 := fun k H => zCd hB6 k H
 have hfit := zCe hq
 refine eI ((B, .slice (some ⟨0, 0, none⟩) B.length (B.length + 3)), (⟨id, fl, [], [], n0 :: ns1, r0 :: rs⟩, 0, p), true) (aI ⟨rfl, at0 0 _ (by decide) (by kernel_rfl), hB6, hq, rfl⟩ ?_)
 refine eI B (aI ⟨rfl, hB6⟩ ?_)
 refine fun ⟨m2, e2, p2⟩ hq2 => ?_
 obtain ⟨z1, z2, z3⟩ := hq.det hq2
 subst z1 z2 z3
 refine eI (B, .slice (some ⟨0, 0, none⟩) B.length (B.length + 3)) (aI ⟨rfl, at0 0 _ (by decide) (by kernel_rfl), hB6⟩ ?_)
 refine eI (B, trB B) (aI ⟨rfl, .tree _ _ _, hB6⟩ ?_)
 refine eI (rdL ⟨id, fl, [], [], n0 :: ns1, r0 :: rs⟩ 1 2 3 4, MsT.lt ⟨id, fl, [], [], n0 :: ns1, r0 :: rs⟩) (aI ⟨rfl, ⟨zAz _ 1 2 3 4 (by decide) _ ⟨by kernel_rfl, by kernel_rfl, by kernel_rfl, by kernel_rfl⟩, MsT.lt_at _ _⟩, hfit⟩ ?_)
 refine ifK (fun _ => ?_) (fun h => ab (show MsT.same ⟨id, fl, [], [], n0 :: ns1, r0 :: rs⟩ ⟨id, fl, [], [], n0 :: ns1, r0 :: rs⟩ = false from h) (by rw [MsT.same_refl]; simp))
 refine aI (by kernel_rfl) ?_
 refine ifK (fun _ => ?_) (fun h => ab h (by simp))
 refine ifK (fun _ => ?_) (fun h => ab h (by simp))
 refine ifK (fun _ => ?_) (fun h => ab h (by simp))
 refine eI (⟨id, fl, [], [], n0 :: ns1, r0 :: rs⟩, 5, 6, 3, 4) (aI ⟨rfl, (show [5, 6, 3, 4].Nodup /\ ∀ c ∈ [5, 6, 3, 4], c ∈ [1, 2, 3, 4, 5, 6, 8] by decide), ⟨⟨25, by kernel_rfl, zDn⟩, ⟨48, by kernel_rfl, zBy⟩, ⟨rfl, by kernel_rfl⟩, ⟨rfl, by kernel_rfl⟩⟩, hfit⟩ ?_)
 refine eI ((B, trB B), (⟨id, fl, [], [], n0 :: ns1, r0 :: rs⟩, 0, p), true) (aI ⟨rfl, .tree _ _ _, hB6, hq, rfl⟩ ?_)
 refine ifK (fun _ => ?_) (fun h => ab h (by simp))
 refine eI (rdL ⟨id, fl, [], [], n0 :: ns1, r0 :: rs⟩ 9 10 11 12, MsT.lt ⟨id, fl, [], [], n0 :: ns1, r0 :: rs⟩) (aI ⟨rfl, ⟨zAz _ 9 10 11 12 (by decide) _ ⟨by kernel_rfl, by kernel_rfl, by kernel_rfl, by kernel_rfl⟩, MsT.lt_at _ _⟩, hfit⟩ ?_)
 refine ifK (fun _ => ?_) (fun h => ab (show MsT.same ⟨id, fl, [], [], n0 :: ns1, r0 :: rs⟩ ⟨id, fl, [], [], n0 :: ns1, r0 :: rs⟩ = false from h) (by rw [MsT.same_refl]; simp))
 refine eI (B, 0) (aI ⟨rfl, by kernel_rfl, by show B.length <= _; omega⟩ ?_)
 exact ⟨_, _, _, rfl⟩
end
section
open Go Go.RowKit
theorem zRc (B : Bl) (hB : B.length <= 70000) (p id fl : Int) (a0 : RcX) (as1 : List RcX) (hq : msQ B ⟨id, fl, [], a0 :: as1, [], []⟩ 0 p) : ∃ r, FnS Try.prog 0 7 [trB B] .e 0 r /\ ∃ H k wr, r = .ret (.bool true) H k wr := by
 refine zAu mixed tbMr6 [] Try.func7 (c := bodyOf Try.f7) (by kernel_rfl) ?_
 refine ifK (fun g2 => ?_) (fun g2 => ?_)
 ·exact ⟨_, _, _, rfl⟩
 refine eI B (aI ⟨rfl, by show B.length <= _; omega⟩ ?_)
 have hB6 : B.length <= 1000000 := by omega
 have at0 := fun k H => zCd hB6 k H
 have hfit := zCe hq
 refine eI ((B, .slice (some ⟨0, 0, none⟩) B.length (B.length + 3)), (⟨id, fl, [], a0 :: as1, [], []⟩, 0, p), true) (aI ⟨rfl, at0 0 _ (by decide) (by kernel_rfl), hB6, hq, rfl⟩ ?_)
 refine eI B (aI ⟨rfl, hB6⟩ ?_)
 refine fun ⟨m2, e2, p2⟩ hq2 => ?_
 obtain ⟨z1, z2, z3⟩ := hq.det hq2
 subst z1 z2 z3
 refine eI (B, .slice (some ⟨0, 0, none⟩) B.length (B.length + 3)) (aI ⟨rfl, at0 0 _ (by decide) (by kernel_rfl), hB6⟩ ?_)
 refine eI (B, trB B) (aI ⟨rfl, .tree _ _ _, hB6⟩ ?_)
 refine eI (rdL ⟨id, fl, [], a0 :: as1, [], []⟩ 1 2 3 4, MsT.lt ⟨id, fl, [], a0 :: as1, [], []⟩) (aI ⟨rfl, ⟨zAz _ 1 2 3 4 (by decide) _ ⟨by kernel_rfl, by kernel_rfl, by kernel_rfl, by kernel_rfl⟩, MsT.lt_at _ _⟩, hfit⟩ ?_)
 refine ifK (fun _ => ?_) (fun h => ab (show MsT.same ⟨id, fl, [], a0 :: as1, [], []⟩ ⟨id, fl, [], a0 :: as1, [], []⟩ = false from h) (by rw [MsT.same_refl]; simp))
 refine aI (by kernel_rfl) ?_
 refine ifK (fun _ => ?_) (fun h => ab h (by simp))
 refine ifK (fun _ => ?_) (fun h => ab h (by simp))
 refine ifK (fun _ => ?_) (fun h => ab h (by simp))
 refine eI (⟨id, fl, [], a0 :: as1, [], []⟩, 5, 2, 6, 8) (aI ⟨rfl, (show [5, 2, 6, 8].Nodup /\ ∀ c ∈ [5, 2, 6, 8], c ∈ [1, 2, 3, 4, 5, 6, 8] by decide), ⟨⟨25, by kernel_rfl, zDn⟩, ⟨rfl, by kernel_rfl⟩, ⟨48, by kernel_rfl, zBy⟩, ⟨48, by kernel_rfl, zBy⟩⟩, hfit⟩ ?_)
 refine eI ((B, trB B), (⟨id, fl, [], a0 :: as1, [], []⟩, 0, p), true) (aI ⟨rfl, .tree _ _ _, hB6, hq, rfl⟩ ?_)
 refine ifK (fun _ => ?_) (fun h => ab h (by simp))
 refine eI (rdL ⟨id, fl, [], a0 :: as1, [], []⟩ 9 10 11 12, MsT.lt ⟨id, fl, [], a0 :: as1, [], []⟩) (aI ⟨rfl, ⟨zAz _ 9 10 11 12 (by decide) _ ⟨by kernel_rfl, by kernel_rfl, by kernel_rfl, by kernel_rfl⟩, MsT.lt_at _ _⟩, hfit⟩ ?_)
 refine ifK (fun _ => ?_) (fun h => ab (show MsT.same ⟨id, fl, [], a0 :: as1, [], []⟩ ⟨id, fl, [], a0 :: as1, [], []⟩ = false from h) (by rw [MsT.same_refl]; simp))
 refine eI (B, 0) (aI ⟨rfl, by kernel_rfl, by show B.length <= _; omega⟩ ?_)
 exact ⟨_, _, _, rfl⟩
theorem zRd (B : Bl) (hB : B.length <= 70000) (p id fl : Int) (a0 : RcX) (as1 : List RcX) (r0 : RcX) (rs : List RcX) (hq : msQ B ⟨id, fl, [], a0 :: as1, [], r0 :: rs⟩ 0 p) : ∃ r, FnS Try.prog 0 7 [trB B] .e 0 r /\ ∃ H k wr, r = .ret (.bool true) H k wr := by
 refine zAu mixed tbMr6 [] Try.func7 (c := bodyOf Try.f7) (by kernel_rfl) ?_
 refine ifK (fun g2 => ?_) (fun g2 => ?_)
 ·exact ⟨_, _, _, rfl⟩
 refine eI B (aI ⟨rfl, by show B.length <= _; omega⟩ ?_)
 have hB6 : B.length <= 1000000 := by omega
 have at0 := fun k H => zCd hB6 k H
 have hfit := zCe hq
 refine eI ((B, .slice (some ⟨0, 0, none⟩) B.length (B.length + 3)), (⟨id, fl, [], a0 :: as1, [], r0 :: rs⟩, 0, p), true) (aI ⟨rfl, at0 0 _ (by decide) (by kernel_rfl), hB6, hq, rfl⟩ ?_)
 refine eI B (aI ⟨rfl, hB6⟩ ?_)
 refine fun ⟨m2, e2, p2⟩ hq2 => ?_
 obtain ⟨z1, z2, z3⟩ := hq.det hq2
 subst z1 z2 z3
 refine eI (B, .slice (some ⟨0, 0, none⟩) B.length (B.length + 3)) (aI ⟨rfl, at0 0 _ (by decide) (by kernel_rfl), hB6⟩ ?_)
 refine eI (B, trB B) (aI ⟨rfl, .tree _ _ _, hB6⟩ ?_)
 refine eI (rdL ⟨id, fl, [], a0 :: as1, [], r0 :: rs⟩ 1 2 3 4, MsT.lt ⟨id, fl, [], a0 :: as1, [], r0 :: rs⟩) (aI ⟨rfl, ⟨zAz _ 1 2 3 4 (by decide) _ ⟨by kernel_rfl, by kernel_rfl, by kernel_rfl, by kernel_rfl⟩, MsT.lt_at _ _⟩, hfit⟩ ?_)
 refine ifK (fun _ => ?_) (fun h => ab (show MsT.same ⟨id, fl, [], a0 :: as1, [], r0 :: rs⟩ ⟨id, fl, [], a0 :: as1, [], r0 :: rs⟩ = false from h) (by rw [MsT.same_refl]; simp))
 refine aI (by kernel_rfl) ?_
 refine ifK (fun _ => ?_) (fun h => ab h (by simp))
 refine ifK (fun _ => ?_) (fun h => ab h (by simp))
 refine ifK (fun _ => ?_) (fun h => ab h (by simp))
 refine eI (⟨id, fl, [], a0 :: as1, [], r0 :: rs⟩, 5, 2, 6, 4) (aI ⟨rfl, (show [5, 2, 6, 4].Nodup /\ ∀ c ∈ [5, 2, 6, 4], c ∈ [1, 2, 3, 4, 5, 6, 8] by decide), ⟨⟨25, by kernel_rfl, zDn⟩, ⟨rfl, by kernel_rfl⟩, ⟨48, by kernel_rfl, zBy⟩, ⟨rfl, by kernel_rfl⟩⟩, hfit⟩ ?_)
 refine eI ((B, trB B), (⟨id, fl, [], a0 :: as1, [], r0 :: rs⟩, 0, p), true) (aI ⟨rfl, .tree _ _ _, hB6, hq, rfl⟩ ?_)
 refine ifK (fun _ => ?_) (fun h => ab h (by simp))
 refine eI (rdL ⟨id, fl, [], a0 :: as1, [], r0 :: rs⟩ 9 10 11 12, MsT.lt ⟨id, fl, [], a0 :: as1, [], r0 :: rs⟩) (aI ⟨rfl, ⟨zAz _ 9 10 11 12 (by decide) _ ⟨by kernel_rfl, by kernel_rfl, by kernel_rfl, by kernel_rfl⟩, MsT.lt_at _ _⟩, hfit⟩ ?_)
 refine ifK (fun _ => ?_) (fun h => ab (show MsT.same ⟨id, fl, [], a0 :: as1, [], r0 :: rs⟩ ⟨id, fl, [], a0 :: as1, [], r0 :: rs⟩ = false from h) (by rw [MsT.same_refl]; simp))
 refine eI (B, 0) (aI ⟨rfl, by kernel_rfl, by show B.length <= _; omega⟩ ?_)
 exact ⟨_, _, _, rfl⟩
theorem zRe (B : Bl) (hB : B.length <= 70000) (p id fl : Int) (a0 : RcX) (as1 : List RcX) (n0 : RcX) (ns1 : List RcX) (hq : msQ B ⟨id, fl, [], a0 :: as1, n0 :: ns1, []⟩ 0 p) : ∃ r, FnS Try.prog 0 7 [trB B] .e 0 r /\ ∃ H k wr, r = .ret (.bool true) H k wr := by
 refine zAu mixed tbMr6 [] Try.func7 (c := bodyOf Try.f7) (by kernel_rfl) ?_
 refine ifK (fun g2 => ?_) (fun g2 => ?_)
 ·exact ⟨_, _, _, rfl⟩
 refine eI B (aI ⟨rfl, by show B.length <= _; omega⟩ ?_)
 have hB6 : B.length <= 1000000 := by omega
 have at0 := fun k H => zCd hB6 k H
 have hfit := zCe hq
 refine eI ((B, .slice (some ⟨0, 0, none⟩) B.length (B.length + 3)), (⟨id, fl, [], a0 :: as1, n0 :: ns1, []⟩, 0, p), true) (aI ⟨rfl, at0 0 _ (by decide) (by kernel_rfl), hB6, hq, rfl⟩ ?_)
 refine eI B (aI ⟨rfl, hB6⟩ ?_)
 refine fun ⟨m2, e2, p2⟩ hq2 => ?_
 obtain ⟨z1, z2, z3⟩ := hq.det hq2
 subst z1 z2 z3
 refine eI (B, .slice (some ⟨0, 0, none⟩) B.length (B.length + 3)) (aI ⟨rfl, at0 0 _ (by decide) (by kernel_rfl), hB6⟩ ?_)
 refine eI (B, trB B) (aI ⟨rfl, .tree _ _ _, hB6⟩ ?_)
 refine eI (rdL ⟨id, fl, [], a0 :: as1, n0 :: ns1, []⟩ 1 2 3 4, MsT.lt ⟨id, fl, [], a0 :: as1, n0 :: ns1, []⟩) (aI ⟨rfl, ⟨zAz _ 1 2 3 4 (by decide) _ ⟨by kernel_rfl, by kernel_rfl, by kernel_rfl, by kernel_rfl⟩, MsT.lt_at _ _⟩, hfit⟩ ?_)
 refine ifK (fun _ => ?_) (fun h => ab (show MsT.same ⟨id, fl, [], a0 :: as1, n0 :: ns1, []⟩ ⟨id, fl, [], a0 :: as1, n0 :: ns1, []⟩ = false from h) (by rw [MsT.same_refl]; simp))
 refine aI (by kernel_rfl) ?_
 refine ifK (fun _ => ?_) (fun h => ab h (by simp))
 refine ifK (fun _ => ?_) (fun h => ab h (by simp))
 refine ifK (fun _ => ?_) (fun h => ab h (by simp))
 refine eI (⟨id, fl, [], a0 :: as1, n0 :: ns1, []⟩, 5, 2, 3, 6) (aI ⟨rfl, (show [5, 2, 3, 6].Nodup /\ ∀ c ∈ [5, 2, 3, 6], c ∈ [1, 2, 3, 4, 5, 6, 8] by decide), ⟨⟨25, by kernel_rfl, zDn⟩, ⟨rfl, by kernel_rfl⟩, ⟨rfl, by kernel_rfl⟩, ⟨48, by kernel_rfl, zBy⟩⟩, hfit⟩ ?_)
 refine eI ((B, trB B), (⟨id, fl, [], a0 :: as1, n0 :: ns1, []⟩, 0, p), true) (aI ⟨rfl, .tree _ _ _, hB6, hq, rfl⟩ ?_)
 refine ifK (fun _ => ?_) (fun h => ab h (by simp))
 refine eI (rdL ⟨id, fl, [], a0 :: as1, n0 :: ns1, []⟩ 9 10 11 12, MsT.lt ⟨id, fl, [], a0 :: as1, n0 :: ns1, []⟩) (aI ⟨rfl, ⟨zAz _ 9 10 11 12 (by decide) _ ⟨by kernel_rfl, by kernel_rfl, by kernel_rfl, by kernel_rfl⟩, MsT.lt_at _ _⟩, hfit⟩ ?_)
 refine ifK (fun _ => ?_) (fun h => ab (show MsT.same ⟨id, fl, [], a0 :: as1, n0 :: ns1, []⟩ ⟨id, fl, [], a0 :: as1, n0 :: ns1, []⟩ = false from h) (by rw [MsT.same_refl]; simp))
 refine eI (B, 0) (aI ⟨rfl, by kernel_rfl, by show B.length <= _; omega⟩ ?_)
 exact ⟨_, _, _, rfl⟩
theorem zRf (B : Bl) (hB : B.length <= 70000) (p id fl : Int) (a0 : RcX) (as1 : List RcX) (n0 : RcX) (ns1 : List RcX) (r0 : RcX) (rs : List RcX) (hq : msQ B ⟨id, fl, [], a0 :: as1, n0 :: ns1, r0 :: rs⟩ 0 p) : ∃ r, FnS Try.prog 0 7 [trB B] .e 0 r /\ ∃ H k wr, r = .ret (.bool true) H k wr := by
 refine zAu mixed tbMr6 [] Try.func7 (c := bodyOf Try.f7) (by kernel_rfl) ?_
 refine ifK (fun g2 => ?_) (fun g2 => ?_)
 ·exact ⟨_, _, _, rfl⟩
 refine eI B (aI ⟨rfl, by show B.length <= _; omega⟩ ?_)
 have hB6 : B.length <= 1000000 := by omega
 have at0 := fun k H => zCd hB6 k H
 have hfit := zCe hq
 refine eI ((B, .slice (some ⟨0, 0, none⟩) B.length (B.length + 3)), (⟨id, fl, [], a0 :: as1, n0 :: ns1, r0 :: rs⟩, 0, p), true) (aI ⟨rfl, at0 0 _ (by decide) (by kernel_rfl), hB6, hq, rfl⟩ ?_)
 refine eI B (aI ⟨rfl, hB6⟩ ?_)
 refine fun ⟨m2, e2, p2⟩ hq2 => ?_
 obtain ⟨z1, z2, z3⟩ := hq.det hq2
 subst z1 z2 z3
 refine eI (B, .slice (some ⟨0, 0, none⟩) B.length (B.length + 3)) (aI ⟨rfl, at0 0 _ (by decide) (by kernel_rfl), hB6⟩ ?_)
 refine eI (B, trB B) (aI ⟨rfl, .tree _ _ _, hB6⟩ ?_)
 refine eI (rdL ⟨id, fl, [], a0 :: as1, n0 :: ns1, r0 :: rs⟩ 1 2 3 4, MsT.lt ⟨id, fl, [], a0 :: as1, n0 :: ns1, r0 :: rs⟩) (aI ⟨rfl, ⟨zAz _ 1 2 3 4 (by decide) _ ⟨by kernel_rfl, by kernel_rfl, by kernel_rfl, by kernel_rfl⟩, MsT.lt_at _ _⟩, hfit⟩ ?_)
 refine ifK (fun _ => ?_) (fun h => ab (show MsT.same ⟨id, fl, [], a0 :: as1, n0 :: ns1, r0 :: rs⟩ ⟨id, fl, [], a0 :: as1, n0 :: ns1, r0 :: rs⟩ = false from h) (by rw [MsT.same_refl]; simp))
 refine aI (by kernel_rfl) ?_
 refine ifK (fun _ => ?_) (fun h => ab h (by simp))
 refine ifK (fun _ => ?_) (fun h => ab h (by simp))
 refine ifK (fun _ => ?_) (fun h => ab h (by simp))
 refine eI (⟨id, fl, [], a0 :: as1, n0 :: ns1, r0 :: rs⟩, 5, 2, 3, 4) (aI ⟨rfl, (show [5, 2, 3, 4].Nodup /\ ∀ c ∈ [5, 2, 3, 4], c ∈ [1, 2, 3, 4, 5, 6, 8] by decide), ⟨⟨25, by kernel_rfl, zDn⟩, ⟨rfl, by kernel_rfl⟩, ⟨rfl, by kernel_rfl⟩, ⟨rfl, by kernel_rfl⟩⟩, hfit⟩ ?_)
 refine eI ((B, trB B), (⟨id, fl, [], a0 :: as1, n0 :: ns1, r0 :: rs⟩, 0, p), true) (aI ⟨rfl, .tree _ _ _, hB6, hq, rfl⟩ ?_)
 refine ifK (fun _ => ?_) (fun h => ab h (by simp))
 refine eI (rdL ⟨id, fl, [], a0 :: as1, n0 :: ns1, r0 :: rs⟩ 9 10 11 12, MsT.lt ⟨id, fl, [], a0 :: as1, n0 :: ns1, r0 :: rs⟩) (aI ⟨rfl, ⟨zAz _ 9 10 11 12 (by decide) _ ⟨by kernel_rfl, by kernel_rfl, by kernel_rfl, by kernel_rfl⟩, MsT.lt_at _ _⟩, hfit⟩ ?_)
 refine ifK (fun _ => ?_) (fun h => ab (show MsT.same ⟨id, fl, [], a0 :: as1, n0 :: ns1, r0 :: rs⟩ ⟨id, fl, [], a0 :: as1, n0 :: ns1, r0 :: rs⟩ = false from h) (by rw [MsT.same_refl]; simp))
 refine eI (B, 0) (aI ⟨rfl, by kernel_rfl, by show B.length <= _; omega⟩ ?_)
 exact ⟨_, _, _, rfl⟩
end
section
open Go Go.RowKit
theorem zRg (B : Bl) (hB : B.length <= 70000) (p id fl : Int) (q0 : QuX) (qs : List QuX) (hq : msQ B ⟨id, fl, q0 :: qs, [], [], []⟩ 0 p) : ∃ r, FnS Try.prog 0 7 [trB B] .e 0 r /\ ∃ H k wr, r = .ret (.bool true) H k wr := by
 refine zAu mixed tbMr6 [] Try.func7 (c := bodyOf Try.f7) (by kernel_rfl) ?_
 refine ifK (fun g2 => ?_) (fun g2 => ?_)
 ·exact ⟨_, _, _, rfl⟩
 refine eI B (aI ⟨rfl, by show B.length <= _; omega⟩ ?_)
 have hB6 : B.length <= 1000000 := by omega
 have at0 := fun k H => zCd hB6 k H
 have hfit := zCe hq
 refine eI ((B, .slice (some ⟨0, 0, none⟩) B.length (B.length + 3)), (⟨id, fl, q0 :: qs, [], [], []⟩, 0, p), true) (aI ⟨rfl, at0 0 _ (by decide) (by kernel_rfl), hB6, hq, rfl⟩ ?_)
 refine eI B (aI ⟨rfl, hB6⟩ ?_)
 refine fun ⟨m2, e2, p2⟩ hq2 => ?_
 obtain ⟨z1, z2, z3⟩ := hq.det hq2
 subst z1 z2 z3
 refine eI (B, .slice (some ⟨0, 0, none⟩) B.length (B.length + 3)) (aI ⟨rfl, at0 0 _ (by decide) (by kernel_rfl), hB6⟩ ?_)
 refine eI (B, trB B) (aI ⟨rfl, .tree _ _ _, hB6⟩ ?_)
 refine eI (rdL ⟨id, fl, q0 :: qs, [], [], []⟩ 1 2 3 4, MsT.lt ⟨id, fl, q0 :: qs, [], [], []⟩) (aI ⟨rfl, ⟨zAz _ 1 2 3 4 (by decide) _ ⟨by kernel_rfl, by kernel_rfl, by kernel_rfl, by kernel_rfl⟩, MsT.lt_at _ _⟩, hfit⟩ ?_)
 refine ifK (fun _ => ?_) (fun h => ab (show MsT.same ⟨id, fl, q0 :: qs, [], [], []⟩ ⟨id, fl, q0 :: qs, [], [], []⟩ = false from h) (by rw [MsT.same_refl]; simp))
 refine aI (by kernel_rfl) ?_
 refine ifK (fun _ => ?_) (fun h => ab h (by simp))
 refine ifK (fun _ => ?_) (fun h => ab h (by simp))
 refine ifK (fun _ => ?_) (fun h => ab h (by simp))
 refine eI (⟨id, fl, q0 :: qs, [], [], []⟩, 1, 5, 6, 8) (aI ⟨rfl, (show [1, 5, 6, 8].Nodup /\ ∀ c ∈ [1, 5, 6, 8], c ∈ [1, 2, 3, 4, 5, 6, 8] by decide), ⟨⟨rfl, by kernel_rfl⟩, ⟨25, by kernel_rfl, zDn⟩, ⟨48, by kernel_rfl, zBy⟩, ⟨48, by kernel_rfl, zBy⟩⟩, hfit⟩ ?_)
 refine eI ((B, trB B), (⟨id, fl, q0 :: qs, [], [], []⟩, 0, p), true) (aI ⟨rfl, .tree _ _ _, hB6, hq, rfl⟩ ?_)
 refine ifK (fun _ => ?_) (fun h => ab h (by simp))
 refine eI (rdL ⟨id, fl, q0 :: qs, [], [], []⟩ 9 10 11 12, MsT.lt ⟨id, fl, q0 :: qs, [], [], []⟩) (aI ⟨rfl, ⟨zAz _ 9 10 11 12 (by decide) _ ⟨by kernel_rfl, by kernel_rfl, by kernel_rfl, by kernel_rfl⟩, MsT.lt_at _ _⟩, hfit⟩ ?_)
 refine ifK (fun _ => ?_) (fun h => ab (show MsT.same ⟨id, fl, q0 :: qs, [], [], []⟩ ⟨id, fl, q0 :: qs, [], [], []⟩ = false from h) (by rw [MsT.same_refl]; simp))
 refine eI (B, 0) (aI ⟨rfl, by kernel_rfl, by show B.length <= _; omega⟩ ?_)
 exact ⟨_, _, _, rfl⟩
theorem zRh (B : Bl) (hB : B.length <= 70000) (p id fl : Int) (q0 : QuX) (qs : List QuX) (r0 : RcX) (rs : List RcX) (hq : msQ B ⟨id, fl, q0 :: qs, [], [], r0 :: rs⟩ 0 p) : ∃ r, FnS Try.prog 0 7 [trB B] .e 0 r /\ ∃ H k wr, r = .ret (.bool true) H k wr := by
 refine zAu mixed tbMr6 [] Try.func7 (c := bodyOf Try.f7) (by kernel_rfl) ?_
 refine ifK (fun g2 => ?_) (fun g2 => ?_)
 ·exact ⟨_, _, _, rfl⟩
 refine eI B (aI ⟨rfl, by show B.length <= _; omega⟩ ?_)
 have hB6 : B.length <= 1000000 := by omega
 have at0 := fun k H => zCd hB6 k H
 have hfit := zCe hq
 refine eI ((B, .slice (some ⟨0, 0, none⟩) B.length (B.length + 3)), (⟨id, fl, q0 :: qs, [], [], r0 :: rs⟩, 0, p), true) (aI ⟨rfl, at0 0 _ (by decide) (by kernel_rfl), hB6, hq, rfl⟩ ?_)
 refine eI B (aI ⟨rfl, hB6⟩ ?_)
 refine fun ⟨m2, e2, p2⟩ hq2 => ?_
 obtain ⟨z1, z2, z3⟩ := hq.det hq2
 subst z1 z2 z3
 refine eI (B, .slice (some ⟨0, 0, none⟩) B.length (B.length + 3)) (aI ⟨rfl, at0 0 _ (by decide) (by kernel_rfl), hB6⟩ ?_)
 refine eI (B, trB B) (aI ⟨rfl, .tree _ _ _, hB6⟩ ?_)
 refine eI (rdL ⟨id, fl, q0 :: qs, [], [], r0 :: rs⟩ 1 2 3 4, MsT.lt ⟨id, fl, q0 :: qs, [], [], r0 :: rs⟩) (aI ⟨rfl, ⟨zAz _ 1 2 3 4 (by decide) _ ⟨by kernel_rfl, by kernel_rfl, by kernel_rfl, by kernel_rfl⟩, MsT.lt_at _ _⟩, hfit⟩ ?_)
 refine ifK (fun _ => ?_) (fun h => ab (show MsT.same ⟨id, fl, q0 :: qs, [], [], r0 :: rs⟩ ⟨id, fl, q0 :: qs, [], [], r0 :: rs⟩ = false from h) (by rw [MsT.same_refl]; simp))
 refine aI (by kernel_rfl) ?_
 refine ifK (fun _ => ?_) (fun h => ab h (by simp))
 refine ifK (fun _ => ?_) (fun h => ab h (by simp))
 refine ifK (fun _ => ?_) (fun h => ab h (by simp))
 refine eI (⟨id, fl, q0 :: qs, [], [], r0 :: rs⟩, 1, 5, 6, 4) (aI ⟨rfl, (show [1, 5, 6, 4].Nodup /\ ∀ c ∈ [1, 5, 6, 4], c ∈ [1, 2, 3, 4, 5, 6, 8] by decide), ⟨⟨rfl, by kernel_rfl⟩, ⟨25, by kernel_rfl, zDn⟩, ⟨48, by kernel_rfl, zBy⟩, ⟨rfl, by kernel_rfl⟩⟩, hfit⟩ ?_)
 refine eI ((B, trB B), (⟨id, fl, q0 :: qs, [], [], r0 :: rs⟩, 0, p), true) (aI ⟨rfl, .tree _ _ _, hB6, hq, rfl⟩ ?_)
 refine ifK (fun _ => ?_) (fun h => ab h (by simp))
 refine eI (rdL ⟨id, fl, q0 :: qs, [], [], r0 :: rs⟩ 9 10 11 12, MsT.lt ⟨id, fl, q0 :: qs, [], [], r0 :: rs⟩) (aI ⟨rfl, ⟨zAz _ 9 10 11 12 (by decide) _ ⟨by kernel_rfl, by kernel_rfl, by kernel_rfl, by kernel_rfl⟩, MsT.lt_at _ _⟩, hfit⟩ ?_)
 refine ifK (fun _ => ?_) (fun h => ab (show MsT.same ⟨id, fl, q0 :: qs, [], [], r0 :: rs⟩ ⟨id, fl, q0 :: qs, [], [], r0 :: rs⟩ = false from h) (by rw [MsT.same_refl]; simp))
 refine eI (B, 0) (aI ⟨rfl, by kernel_rfl, by show B.length <= _; omega⟩ ?_)
 exact ⟨_, _, _, rfl⟩
theorem zRi (B : Bl) (hB : B.length <= 70000) (p id fl : Int) (q0 : QuX) (qs : List QuX) (n0 : RcX) (ns1 : List RcX) (hq : msQ B ⟨id, fl, q0 :: qs, [], n0 :: ns1, []⟩ 0 p) : ∃ r, FnS Try.prog 0 7 [trB B] .e 0 r /\ ∃ H k wr, r = .ret (.bool true) H k wr := by
 refine zAu mixed tbMr6 [] Try.func7 (c := bodyOf Try.f7) (by kernel_rfl) ?_
 refine ifK (fun g2 => ?_) (fun g2 => ?_)
 ·exact ⟨_, _, _, rfl⟩
 refine eI B (aI ⟨rfl, by show B.length <= _; omega⟩ ?_)
 have hB6 : B.length <= 1000000 := by omega
 have at0 := fun k H => zCd hB6 k H
 have hfit := zCe hq
 refine eI ((B, .slice (some ⟨0, 0, none⟩) B.length (B.length + 3)), (⟨id, fl, q0 :: qs, [], n0 :: ns1, []⟩, 0, p), true) (aI ⟨rfl, at0 0 _ (by decide) (by kernel_rfl), hB6, hq, rfl⟩ ?_)
 refine eI B (aI ⟨rfl, hB6⟩ ?_)
 refine fun ⟨m2, e2, p2⟩ hq2 => ?_
 obtain ⟨z1, z2, z3⟩ := hq.det hq2
 subst z1 z2 z3
 refine eI (B, .slice (some ⟨0, 0, none⟩) B.length (B.length + 3)) (aI ⟨rfl, at0 0 _ (by decide) (by kernel_rfl), hB6⟩ ?_)
 refine eI (B, trB B) (aI ⟨rfl, .tree _ _ _, hB6⟩ ?_)
 refine eI (rdL ⟨id, fl, q0 :: qs, [], n0 :: ns1, []⟩ 1 2 3 4, MsT.lt ⟨id, fl, q0 :: qs, [], n0 :: ns1, []⟩) (aI ⟨rfl, ⟨zAz _ 1 2 3 4 (by decide) _ ⟨by kernel_rfl, by kernel_rfl, by kernel_rfl, by kernel_rfl⟩, MsT.lt_at _ _⟩, hfit⟩ ?_)
 refine ifK (fun _ => ?_) (fun h => ab (show MsT.same ⟨id, fl, q0 :: qs, [], n0 :: ns1, []⟩ ⟨id, fl, q0 :: qs, [], n0 :: ns1, []⟩ = false from h) (by rw [MsT.same_refl]; simp))
 refine aI (by kernel_rfl) ?_
 refine ifK (fun _ => ?_) (fun h => ab h (by simp))
 refine ifK (fun _ => ?_) (fun h => ab h (by simp))
 refine ifK (fun _ => ?_) (fun h => ab h (by simp))
 refine eI (⟨id, fl, q0 :: qs, [], n0 :: ns1, []⟩, 1, 5, 3, 6) (aI ⟨rfl, (show [1, 5, 3, 6].Nodup /\ ∀ c ∈ [1, 5, 3, 6], c ∈ [1, 2, 3, 4, 5, 6, 8] by decide), ⟨⟨rfl, by kernel_rfl⟩, ⟨25, by kernel_rfl, zDn⟩, ⟨rfl, by kernel_rfl⟩, ⟨48, by kernel_rfl, zBy⟩⟩, hfit⟩ ?_)
 refine eI ((B, trB B), (⟨id, fl, q0 :: qs, [], n0 :: ns1, []⟩, 0, p), true) (aI ⟨rfl, .tree _ _ _, hB6, hq, rfl⟩ ?_)
 refine ifK (fun _ => ?_) (fun h => ab h (by simp))
 refine eI (rdL ⟨id, fl, q0 :: qs, [], n0 :: ns1, []⟩ 9 10 11 12, MsT.lt ⟨id, fl, q0 :: qs, [], n0 :: ns1, []⟩) (aI ⟨rfl, ⟨zAz _ 9 10 11 12 (by decide) _ ⟨by kernel_rfl, by kernel_rfl, by kernel_rfl, by kernel_rfl⟩, MsT.lt_at _ _⟩, hfit⟩ ?_)
 refine ifK (fun _ => ?_) (fun h => ab (show MsT.same ⟨id, fl, q0 :: qs, [], n0 :: ns1, []⟩ ⟨id, fl, q0 :: qs, [], n0 :: ns1, []⟩ = false from h) (by rw [MsT.same_refl]; simp))
 refine eI (B, 0) (aI ⟨rfl, by kernel_rfl, by show B.length <= _; omega⟩ ?_)
 exact ⟨_, _, _, rfl⟩
theorem zRj (B : Bl) (hB : B.length <= 70000) (p id fl : Int) (q0 : QuX) (qs : List QuX) (n0 : RcX) (ns1 : List RcX) (r0 : RcX) (rs : List RcX) (hq : msQ B ⟨id, fl, q0 :: qs, [], n0 :: ns1, r0 :: rs⟩ 0 p) : ∃ r, FnS Try.prog 0 7 [trB B] .e 0 r /\ ∃ H k wr, r = .ret (.bool true) H k wr := by
 refine zAu mixed tbMr6 [] Try.func7 (c := bodyOf Try.f7) (by kernel_rfl) ?_
 refine ifK (fun g2 => ?_) (fun g2 => ?_)
 ·exact ⟨_, _, _, rfl⟩
 refine eI B (aI ⟨rfl, by show B.length <= _; omega⟩ ?_)
 have hB6 : B.length <= 1000000 := by omega
 have at0 := fun k H => zCd hB6 k H
 have hfit := zCe hq
 refine eI ((B, .slice (some ⟨0, 0, none⟩) B.length (B.length + 3)), (⟨id, fl, q0 :: qs, [], n0 :: ns1, r0 :: rs⟩, 0, p), true) (aI ⟨rfl, at0 0 _ (by decide) (by kernel_rfl), hB6, hq, rfl⟩ ?_)
 refine eI B (aI ⟨rfl, hB6⟩ ?_)
 refine fun ⟨m2, e2, p2⟩ hq2 => ?_
 obtain ⟨z1, z2, z3⟩ := hq.det hq2
 subst z1 z2 z3
 refine eI (B, .slice (some ⟨0, 0, none⟩) B.length (B.length + 3)) (aI ⟨rfl, at0 0 _ (by decide) (by kernel_rfl), hB6⟩ ?_)
 refine eI (B, trB B) (aI ⟨rfl, .tree _ _ _, hB6⟩ ?_)
 refine eI (rdL ⟨id, fl, q0 :: qs, [], n0 :: ns1, r0 :: rs⟩ 1 2 3 4, MsT.lt ⟨id, fl, q0 :: qs, [], n0 :: ns1, r0 :: rs⟩) (aI ⟨rfl, ⟨zAz _ 1 2 3 4 (by decide) _ ⟨by kernel_rfl, by kernel_rfl, by kernel_rfl, by kernel_rfl⟩, MsT.lt_at _ _⟩, hfit⟩ ?_)
 refine ifK (fun _ => ?_) (fun h => ab (show MsT.same ⟨id, fl, q0 :: qs, [], n0 :: ns1, r0 :: rs⟩ ⟨id, fl, q0 :: qs, [], n0 :: ns1, r0 :: rs⟩ = false from h) (by rw [MsT.same_refl]; simp))
 refine aI (by kernel_rfl) ?_
 refine ifK (fun _ => ?_) (fun h => ab h (by simp))
 refine ifK (fun _ => ?_) (fun h => ab h (by simp))
 refine ifK (fun _ => ?_) (fun h => ab h (by simp))
 refine eI (⟨id, fl, q0 :: qs, [], n0 :: ns1, r0 :: rs⟩, 1, 5, 3, 4) (aI ⟨rfl, (show [1, 5, 3, 4].Nodup /\ ∀ c ∈ [1, 5, 3, 4], c ∈ [1, 2, 3, 4, 5, 6, 8] by decide), ⟨⟨rfl, by kernel_rfl⟩, ⟨25, by kernel_rfl, zDn⟩, ⟨rfl, by kernel_rfl⟩, ⟨rfl, by kernel_rfl⟩⟩, hfit⟩ ?_)
 refine eI ((B, trB B), (⟨id, fl, q0 :: qs, [], n0 :: ns1, r0 :: rs⟩, 0, p), true) (aI ⟨rfl, .tree _ _ _, hB6, hq, rfl⟩ ?_)
 refine ifK (fun _ => ?_) (fun h => ab h (by simp))
 refine eI (rdL ⟨id, fl, q0 :: qs, [], n0 :: ns1, r0 :: rs⟩ 9 10 11 12, MsT.lt ⟨id, fl, q0 :: qs, [], n0 :: ns1, r0 :: rs⟩) (aI ⟨rfl, ⟨zAz _ 9 10 11 12 (by decide) _ ⟨by kernel_rfl, by kernel_rfl, by kernel_rfl, by kernel_rfl⟩, MsT.lt_at _ _⟩, hfit⟩ ?_)
 refine ifK (fun _ => ?_) (fun h => ab (show MsT.same ⟨id, fl, q0 :: qs, [], n0 :: ns1, r0 :: rs⟩ ⟨id, fl, q0 :: qs, [], n0 :: ns1, r0 :: rs⟩ = false from h) (by rw [MsT.same_refl]; simp))
 refine eI (B, 0) (aI ⟨rfl, by kernel_rfl, by show B.length <= _; omega⟩ ?_)
 exact ⟨_, _, _, rfl⟩
end
section
open Go Go.RowKit
theorem zRk (B : Bl) (hB : B.length <= 70000) (p id fl : Int) (q0 : QuX) (qs : List QuX) (a0 : RcX) (as1 : List RcX) (hq : msQ B ⟨id, fl, q0 :: qs, a0 :: as1, [], []⟩ 0 p) : ∃ r, FnS Try.prog 0 7 [trB B] .e 0 r /\ ∃ H k wr, r = .ret (.bool true) H k wr := by
 refine zAu mixed tbMr6 [] Try.func7 (c := bodyOf Try.f7) (by kernel_rfl) ?_
 refine ifK (fun g2 => ?_) (fun g2 => ?_)
 ·exact ⟨_, _, _, rfl⟩
 refine eI B (aI ⟨rfl, by show B.length <= _; omega⟩ ?_)
 have hB6 : B.length <= 1000000 := by omega
 have at0 := fun k H => zCd hB6 k H
 have hfit := zCe hq
 refine eI ((B, .slice (some ⟨0, 0, none⟩) B.length (B.length + 3)), (⟨id, fl, q0 :: qs, a0 :: as1, [], []⟩, 0, p), true) (aI ⟨rfl, at0 0 _ (by decide) (by kernel_rfl), hB6, hq, rfl⟩ ?_)
 refine eI B (aI ⟨rfl, hB6⟩ ?_)
 refine fun ⟨m2, e2, p2⟩ hq2 => ?_
 obtain ⟨z1, z2, z3⟩ := hq.det hq2
 subst z1 z2 z3
 refine eI (B, .slice (some ⟨0, 0, none⟩) B.length (B.length + 3)) (aI ⟨rfl, at0 0 _ (by decide) (by kernel_rfl), hB6⟩ ?_)
 refine eI (B, trB B) (aI ⟨rfl, .tree _ _ _, hB6⟩ ?_)
 refine eI (rdL ⟨id, fl, q0 :: qs, a0 :: as1, [], []⟩ 1 2 3 4, MsT.lt ⟨id, fl, q0 :: qs, a0 :: as1, [], []⟩) (aI ⟨rfl, ⟨zAz _ 1 2 3 4 (by decide) _ ⟨by kernel_rfl, by kernel_rfl, by kernel_rfl, by kernel_rfl⟩, MsT.lt_at _ _⟩, hfit⟩ ?_)
 refine ifK (fun _ => ?_) (fun h => ab (show MsT.same ⟨id, fl, q0 :: qs, a0 :: as1, [], []⟩ ⟨id, fl, q0 :: qs, a0 :: as1, [], []⟩ = false from h) (by rw [MsT.same_refl]; simp))
 refine aI (by kernel_rfl) ?_
 refine ifK (fun _ => ?_) (fun h => ab h (by simp))
 refine ifK (fun _ => ?_) (fun h => ab h (by simp))
 refine ifK (fun _ => ?_) (fun h => ab h (by simp))
 refine eI (⟨id, fl, q0 :: qs, a0 :: as1, [], []⟩, 1, 2, 5, 6) (aI ⟨rfl, (show [1, 2, 5, 6].Nodup /\ ∀ c ∈ [1, 2, 5, 6], c ∈ [1, 2, 3, 4, 5, 6, 8] by decide), ⟨⟨rfl, by kernel_rfl⟩, ⟨rfl, by kernel_rfl⟩, ⟨25, by kernel_rfl, zDn⟩, ⟨48, by kernel_rfl, zBy⟩⟩, hfit⟩ ?_)
 refine eI ((B, trB B), (⟨id, fl, q0 :: qs, a0 :: as1, [], []⟩, 0, p), true) (aI ⟨rfl, .tree _ _ _, hB6, hq, rfl⟩ ?_)
 refine ifK (fun _ => ?_) (fun h => ab h (by simp))
 refine eI (rdL ⟨id, fl, q0 :: qs, a0 :: as1, [], []⟩ 9 10 11 12, MsT.lt ⟨id, fl, q0 :: qs, a0 :: as1, [], []⟩) (aI ⟨rfl, ⟨zAz _ 9 10 11 12 (by decide) _ ⟨by kernel_rfl, by kernel_rfl, by kernel_rfl, by kernel_rfl⟩, MsT.lt_at _ _⟩, hfit⟩ ?_)
 refine ifK (fun _ => ?_) (fun h => ab (show MsT.same ⟨id, fl, q0 :: qs, a0 :: as1, [], []⟩ ⟨id, fl, q0 :: qs, a0 :: as1, [], []⟩ = false from h) (by rw [MsT.same_refl]; simp))
 refine eI (B, 0) (aI ⟨rfl, by kernel_rfl, by show B.length <= _; omega⟩ ?_)
 exact ⟨_, _, _, rfl⟩
theorem zRl (B : Bl) (hB : B.length <= 70000) (p id fl : Int) (q0 : QuX) (qs : List QuX) (a0 : RcX) (as1 : List RcX) (r0 : RcX) (rs : List RcX) (hq : msQ B ⟨id, fl, q0 :: qs, a0 :: as1, [], r0 :: rs⟩ 0 p) : ∃ r, FnS Try.prog 0 7 [trB B] .e 0 r /\ ∃ H k wr, r = .ret (.bool true) H k wr := by
 refine zAu mixed tbMr6 [] Try.func7 (c := bodyOf Try.f7) (by kernel_rfl) ?_
 refine ifK (fun g2 => ?_) (fun g2 => ?_)
 ·exact ⟨_, _, _, rfl⟩
 refine eI B (aI ⟨rfl, by show B.length <= _; omega⟩ ?_)
 have hB6 : B.length <= 1000000 := by omega
 have at0 := fun k H => zCd hB6 k H
 have hfit := zCe hq
 refine eI ((B, .slice (some ⟨0, 0, none⟩) B.length (B.length + 3)), (⟨id, fl, q0 :: qs, a0 :: as1, [], r0 :: rs⟩, 0, p), true) (aI ⟨rfl, at0 0 _ (by decide) (by kernel_rfl), hB6, hq, rfl⟩ ?_)
 refine eI B (aI ⟨rfl, hB6⟩ ?_)
 refine fun ⟨m2, e2, p2⟩ hq2 => ?_
 obtain ⟨z1, z2, z3⟩ := hq.det hq2
 subst z1 z2 z3
 refine eI (B, .slice (some ⟨0, 0, none⟩) B.length (B.length + 3)) (aI ⟨rfl, at0 0 _ (by decide) (by kernel_rfl), hB6⟩ ?_)
 refine eI (B, trB B) (aI ⟨rfl, .tree _ _ _, hB6⟩ ?_)
 refine eI (rdL ⟨id, fl, q0 :: qs, a0 :: as1, [], r0 :: rs⟩ 1 2 3 4, MsT.lt ⟨id, fl, q0 :: qs, a0 :: as1, [], r0 :: rs⟩) (aI ⟨rfl, ⟨zAz _ 1 2 3 4 (by decide) _ ⟨by kernel_rfl, by kernel_rfl, by kernel_rfl, by kernel_rfl⟩, MsT.lt_at _ _⟩, hfit⟩ ?_)
 refine ifK (fun _ => ?_) (fun h => ab (show MsT.same ⟨id, fl, q0 :: qs, a0 :: as1, [], r0 :: rs⟩ ⟨id, fl, q0 :: qs, a0 :: as1, [], r0 :: rs⟩ = false from h) (by rw [MsT.same_refl]; simp))
 refine aI (by kernel_rfl) ?_
 refine ifK (fun _ => ?_) (fun h => ab h (by simp))
 refine ifK (fun _ => ?_) (fun h => ab h (by simp))
 refine ifK (fun _ => ?_) (fun h => ab h (by simp))
 refine eI (⟨id, fl, q0 :: qs, a0 :: as1, [], r0 :: rs⟩, 1, 2, 5, 4) (aI ⟨rfl, (show [1, 2, 5, 4].Nodup /\ ∀ c ∈ [1, 2, 5, 4], c ∈ [1, 2, 3, 4, 5, 6, 8] by decide), ⟨⟨rfl, by kernel_rfl⟩, ⟨rfl, by kernel_rfl⟩, ⟨25, by kernel_rfl, zDn⟩, ⟨rfl, by kernel_rfl⟩⟩, hfit⟩ ?_)
 refine eI ((B, trB B), (⟨id, fl, q0 :: qs, a0 :: as1, [], r0 :: rs⟩, 0, p), true) (aI ⟨rfl, .tree _ _ _, hB6, hq, rfl⟩ ?_)
 refine ifK (fun _ => ?_) (fun h => ab h (by simp))
 refine eI (rdL ⟨id, fl, q0 :: qs, a0 :: as1, [], r0 :: rs⟩ 9 10 11 12, MsT.lt ⟨id, fl, q0 :: qs, a0 :: as1, [], r0 :: rs⟩) (aI ⟨rfl, ⟨zAz _ 9 10 11 12 (by decide) _ ⟨by kernel_rfl, by kernel_rfl, by kernel_rfl, by kernel_rfl⟩, MsT.lt_at _ _⟩, hfit⟩ ?_)
 refine ifK (fun _ => ?_) (fun h => ab (show MsT.same ⟨id, fl, q0 :: qs, a0 :: as1, [], r0 :: rs⟩ ⟨id, fl, q0 :: qs, a0 :: as1, [], r0 :: rs⟩ = false from h) (by rw [MsT.same_refl]; simp))
 refine eI (B, 0) (aI ⟨rfl, by kernel_rfl, by show B.length <= _; omega⟩ ?_)
 exact ⟨_, _, _, rfl⟩
theorem zRm (B : Bl) (hB : B.length <= 70000) (p id fl : Int) (q0 : QuX) (qs : List QuX) (a0 : RcX) (as1 : List RcX) (n0 : RcX) (ns1 : List RcX) (hq : msQ B ⟨id, fl, q0 :: qs, a0 :: as1, n0 :: ns1, []⟩ 0 p) : ∃ r, FnS Try.prog 0 7 [trB B] .e 0 r /\ ∃ H k wr, r = .ret (.bool true) H k wr := by
 refine zAu mixed tbMr6 [] Try.func7 (c := bodyOf Try.f7) (by kernel_rfl) ?_
 refine ifK (fun g2 => ?_) (fun g2 => ?_)
 ·exact ⟨_, _, _, rfl⟩
 refine eI B (aI ⟨rfl, by show B.length <= _; omega⟩ ?_)
 have hB6 : B.length <= 1000000 := by omega
 have at0 := fun k H => zCd hB6 k H
 have hfit := zCe hq
 refine eI ((B, .slice (some ⟨0, 0, none⟩) B.length (B.length + 3)), (⟨id, fl, q0 :: qs, a0 :: as1, n0 :: ns1, []⟩, 0, p), true) (aI ⟨rfl, at0 0 _ (by decide) (by kernel_rfl), hB6, hq, rfl⟩ ?_)
 refine eI B (aI ⟨rfl, hB6⟩ ?_)
 refine fun ⟨m2, e2, p2⟩ hq2 => ?_
 obtain ⟨z1, z2, z3⟩ := hq.det hq2
 subst z1 z2 z3
 refine eI (B, .slice (some ⟨0, 0, none⟩) B.length (B.length + 3)) (aI ⟨rfl, at0 0 _ (by decide) (by kernel_rfl), hB6⟩ ?_)
 refine eI (B, trB B) (aI ⟨rfl, .tree _ _ _, hB6⟩ ?_)
 refine eI (rdL ⟨id, fl, q0 :: qs, a0 :: as1, n0 :: ns1, []⟩ 1 2 3 4, MsT.lt ⟨id, fl, q0 :: qs, a0 :: as1, n0 :: ns1, []⟩) (aI ⟨rfl, ⟨zAz _ 1 2 3 4 (by decide) _ ⟨by kernel_rfl, by kernel_rfl, by kernel_rfl, by kernel_rfl⟩, MsT.lt_at _ _⟩, hfit⟩ ?_)
 refine ifK (fun _ => ?_) (fun h => ab (show MsT.same ⟨id, fl, q0 :: qs, a0 :: as1, n0 :: ns1, []⟩ ⟨id, fl, q0 :: qs, a0 :: as1, n0 :: ns1, []⟩ = false from h) (by rw [MsT.same_refl]; simp))
 refine aI (by kernel_rfl) ?_
 refine ifK (fun _ => ?_) (fun h => ab h (by simp))
 refine ifK (fun _ => ?_) (fun h => ab h (by simp))
 refine ifK (fun _ => ?_) (fun h => ab h (by simp))
 refine eI (⟨id, fl, q0 :: qs, a0 :: as1, n0 :: ns1, []⟩, 1, 2, 3, 5) (aI ⟨rfl, (show [1, 2, 3, 5].Nodup /\ ∀ c ∈ [1, 2, 3, 5], c ∈ [1, 2, 3, 4, 5, 6, 8] by decide), ⟨⟨rfl, by kernel_rfl⟩, ⟨rfl, by kernel_rfl⟩, ⟨rfl, by kernel_rfl⟩, ⟨25, by kernel_rfl, zDn⟩⟩, hfit⟩ ?_)
 refine eI ((B, trB B), (⟨id, fl, q0 :: qs, a0 :: as1, n0 :: ns1, []⟩, 0, p), true) (aI ⟨rfl, .tree _ _ _, hB6, hq, rfl⟩ ?_)
 refine ifK (fun _ => ?_) (fun h => ab h (by simp))
 refine eI (rdL ⟨id, fl, q0 :: qs, a0 :: as1, n0 :: ns1, []⟩ 9 10 11 12, MsT.lt ⟨id, fl, q0 :: qs, a0 :: as1, n0 :: ns1, []⟩) (aI ⟨rfl, ⟨zAz _ 9 10 11 12 (by decide) _ ⟨by kernel_rfl, by kernel_rfl, by kernel_rfl, by kernel_rfl⟩, MsT.lt_at _ _⟩, hfit⟩ ?_)
 refine ifK (fun _ => ?_) (fun h => ab (show MsT.same ⟨id, fl, q0 :: qs, a0 :: as1, n0 :: ns1, []⟩ ⟨id, fl, q0 :: qs, a0 :: as1, n0 :: ns1, []⟩ = false from h) (by rw [MsT.same_refl]; simp))
 refine eI (B, 0) (aI ⟨rfl, by kernel_rfl, by show B.length <= _; omega⟩ ?_)
 exact ⟨_, _, _, rfl⟩
theorem zRn (B : Bl) (hB : B.length <= 70000) (p id fl : Int) (q0 : QuX) (qs : List QuX) (a0 : RcX) (as1 : List RcX) (n0 : RcX) (ns1 : List RcX) (r0 : RcX) (rs : List RcX) (hq : msQ B ⟨id, fl, q0 :: qs, a0 :: as1, n0 :: ns1, r0 :: rs⟩ 0 p) : ∃ r, FnS Try.prog 0 7 [trB B] .e 0 r /\ ∃ H k wr, r = .ret (.bool true) H k wr := by
 refine zAu mixed tbMr6 [] Try.func7 (c := bodyOf Try.f7) (by kernel_rfl) ?_
 refine ifK (fun g2 => ?_) (fun g2 => ?_)
 ·exact ⟨_, _, _, rfl⟩
 refine eI B (aI ⟨rfl, by show B.length <= _; omega⟩ ?_)
 have hB6 : B.length <= 1000000 := by omega
 have at0 := fun k H => zCd hB6 k H
 have hfit := zCe hq
 refine eI ((B, .slice (some ⟨0, 0, none⟩) B.length (B.length + 3)), (⟨id, fl, q0 :: qs, a0 :: as1, n0 :: ns1, r0 :: rs⟩, 0, p), true) (aI ⟨rfl, at0 0 _ (by decide) (by kernel_rfl), hB6, hq, rfl⟩ ?_)
 refine eI B (aI ⟨rfl, hB6⟩ ?_)
 refine fun ⟨m2, e2, p2⟩ hq2 => ?_
 obtain ⟨z1, z2, z3⟩ := hq.det hq2
 subst z1 z2 z3
 refine eI (B, .slice (some ⟨0, 0, none⟩) B.length (B.length + 3)) (aI ⟨rfl, at0 0 _ (by decide) (by kernel_rfl), hB6⟩ ?_)
 refine eI (B, trB B) (aI ⟨rfl, .tree _ _ _, hB6⟩ ?_)
 refine eI (rdL ⟨id, fl, q0 :: qs, a0 :: as1, n0 :: ns1, r0 :: rs⟩ 1 2 3 4, MsT.lt ⟨id, fl, q0 :: qs, a0 :: as1, n0 :: ns1, r0 :: rs⟩) (aI ⟨rfl, ⟨zAz _ 1 2 3 4 (by decide) _ ⟨by kernel_rfl, by kernel_rfl, by kernel_rfl, by kernel_rfl⟩, MsT.lt_at _ _⟩, hfit⟩ ?_)
 refine ifK (fun _ => ?_) (fun h => ab (show MsT.same ⟨id, fl, q0 :: qs, a0 :: as1, n0 :: ns1, r0 :: rs⟩ ⟨id, fl, q0 :: qs, a0 :: as1, n0 :: ns1, r0 :: rs⟩ = false from h) (by rw [MsT.same_refl]; simp))
 refine aI (by kernel_rfl) ?_
 refine ifK (fun _ => ?_) (fun h => ab h (by simp))
 refine ifK (fun _ => ?_) (fun h => ab h (by simp))
 refine ifK (fun _ => ?_) (fun h => ab h (by simp))
 refine eI (⟨id, fl, q0 :: qs, a0 :: as1, n0 :: ns1, r0 :: rs⟩, 1, 2, 3, 4) (aI ⟨rfl, (show [1, 2, 3, 4].Nodup /\ ∀ c ∈ [1, 2, 3, 4], c ∈ [1, 2, 3, 4, 5, 6, 8] by decide), ⟨⟨rfl, by kernel_rfl⟩, ⟨rfl, by kernel_rfl⟩, ⟨rfl, by kernel_rfl⟩, ⟨rfl, by kernel_rfl⟩⟩, hfit⟩ ?_)
 refine eI ((B, trB B), (⟨id, fl, q0 :: qs, a0 :: as1, n0 :: ns1, r0 :: rs⟩, 0, p), true) (aI ⟨rfl, .tree _ _ _, hB6, hq, rfl⟩ ?_)
 refine ifK (fun _ => ?_) (fun h => ab h (by simp))
 refine eI (rdL ⟨id, fl, q0 :: qs, a0 :: as1, n0 :: ns1, r0 :: rs⟩ 9 10 11 12, MsT.lt ⟨id, fl, q0 :: qs, a0 :: as1, n0 :: ns1, r0 :: rs⟩) (aI ⟨rfl, ⟨zAz _ 9 10 11 12 (by decide) _ ⟨by kernel_rfl, by kernel_rfl, by kernel_rfl, by kernel_rfl⟩, MsT.lt_at _ _⟩, hfit⟩ ?_)
 refine ifK (fun _ => ?_) (fun h => ab (show MsT.same ⟨id, fl, q0 :: qs, a0 :: as1, n0 :: ns1, r0 :: rs⟩ ⟨id, fl, q0 :: qs, a0 :: as1, n0 :: ns1, r0 :: rs⟩ = false from h) (by rw [MsT.same_refl]; simp))
 refine eI (B, 0) (aI ⟨rfl, by kernel_rfl, by show B.length <= _; omega⟩ ?_)
 exact ⟨_, _, _, rfl⟩
end
section
open Go Go.RowKit
theorem mreads_fn (B : Bl) (hB : B.length <= 140737488351232) : ∃ r, FnS Try.prog 0 7 [trB B] .e 0 r /\ ∃ H k wr, r = .ret (.bool true) H k wr := by
 by_cases h5 : B.length <= 70000
 ·obtain ⟨m, e, p, hq⟩ : ∃ m e p, msQ B m e p := by
   obtain ⟨r, _, m, e, p, _, _, _, hq, _⟩ := zOt B (by omega)
   exact ⟨m, e, p, hq⟩
  by_cases he : e = 0
  ·subst he
   obtain ⟨id, fl, q, an, ns, ar⟩ := m
   cases q with
   | nil =>
    cases an with
    | nil =>
     cases ns with
     | nil =>
      cases ar with
      | nil =>
       exact zQy B h5 p id fl  hq
      | cons r0 rs =>
       exact zQz B h5 p id fl r0 rs hq
     | cons n0 ns1 =>
      cases ar with
      | nil =>
       exact zRa B h5 p id fl n0 ns1 hq
      | cons r0 rs =>
       exact zRb B h5 p id fl n0 ns1 r0 rs hq
    | cons a0 as1 =>
     cases ns with
     | nil =>
      cases ar with
      | nil =>
       exact zRc B h5 p id fl a0 as1 hq
      | cons r0 rs =>
       exact zRd B h5 p id fl a0 as1 r0 rs hq
     | cons n0 ns1 =>
      cases ar with
      | nil =>
       exact zRe B h5 p id fl a0 as1 n0 ns1 hq
      | cons r0 rs =>
       exact zRf B h5 p id fl a0 as1 n0 ns1 r0 rs hq
   | cons q0 qs =>
    cases an with
    | nil =>
     cases ns with
     | nil =>
      cases ar with
      | nil =>
       exact zRg B h5 p id fl q0 qs hq
      | cons r0 rs =>
       exact zRh B h5 p id fl q0 qs r0 rs hq
     | cons n0 ns1 =>
      cases ar with
      | nil =>
       exact zRi B h5 p id fl q0 qs n0 ns1 hq
      | cons r0 rs =>
       exact zRj B h5 p id fl q0 qs n0 ns1 r0 rs hq
    | cons a0 as1 =>
     cases ns with
     | nil =>
      cases ar with
      | nil =>
       exact zRk B h5 p id fl q0 qs a0 as1 hq
      | cons r0 rs =>
       exact zRl B h5 p id fl q0 qs a0 as1 r0 rs hq
     | cons n0 ns1 =>
      cases ar with
      | nil =>
       exact zRm B h5 p id fl q0 qs a0 as1 n0 ns1 hq
      | cons r0 rs =>
       exact zRn B h5 p id fl q0 qs a0 as1 n0 ns1 r0 rs hq
  exact mreads_e B h5 m e p he hq
 refine zAu mixed tbMr6 [] Try.func7 (c := bodyOf Try.f7) (by kernel_rfl) ?_
 refine ifK (fun _ => ?_) (fun g => ab (oF g) (aL (by show ((B.length : Nat) : Int) > 70000; omega)))
 exact ⟨_, _, _, rfl⟩
end
end Go.Proofs.Ytcggcoijhdagnaa
