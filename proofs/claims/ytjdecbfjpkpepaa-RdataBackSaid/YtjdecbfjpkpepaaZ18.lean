/- DERIVED. Texts put together: Lw1, D9, Bk3, Bk4, Bk5, Bk6, Bk7, Bk8, Sb1, Lw2, Lw3. -/
import Derived.Test.YtjdecbfjpkpepaaZ12
import Derived.Test.YtjdecbfjpkpepaaZ13
import Derived.Test.YtjdecbfjpkpepaaZ17
set_option maxRecDepth 1000000
set_option maxHeartbeats 32000000
namespace Go.Proofs.Ytjdecbfjpkpepaa
open Go Go.RowKit
structure A6 where
 t : Int
 at' : Int
 raw : Bool
 d : ByteArray
def A6.g (x : A6) : List Value := [.int .i64 x.t, .int .i64 x.at', .bool x.raw, .string x.d]
def layA6 : Lay A6 where
 g := A6.g
 k := 4
 t := 46
 len _ := rfl
 pos := by decide
 plain _ := rfl
 inj x y h := by
  obtain ⟨t, a, r, d⟩ := x
  obtain ⟨t', a', r', d'⟩ := y
  simp only [A6.g, List.cons.injEq, Value.string.injEq, Value.int.injEq, Value.bool.injEq, true_and, and_true] at h
  obtain ⟨rfl, rfl, rfl, rfl⟩ := h; rfl
def bigA (x : A6) : Bool := decide ((x.d.data.size : Int) > 3000)
def longA (l : List A6) : Bool := (l.take 41).any bigA || decide (l.length > 40)
noncomputable def tbLw1 : Tb Try.prog 0 := tbOf mixed []
def lgS (a b : List Value) (l : List A6) (c : Nat) (i : Nat) (f : Nat → Option Value) : Fs := ⟨slots 6 [(0, .slice (some ⟨0, a.length, none⟩) l.length c), (3, .int .i64 (i : Int))] f, heap 1 [(0, .win (a ++ l.flatMap layA6.g ++ b) layA6.k)], 1, [], []⟩
theorem long_fn (a b : List Value) (l : List A6) (c : Nat) (ha : plainL a = true) (hb : plainL b = true) : ∃ r, FnS Try.prog 0 25 [.slice (some ⟨0, a.length, none⟩) l.length c] (heap 1 [(0, .win (a ++ l.flatMap layA6.g ++ b) layA6.k)]) 1 r ∧ ∃ H m wr, r = .ret (.bool (longA l)) H m wr ∧ ∀ k ∈ wr, 1 ≤ k := by
 have hplain : plainL (a ++ l.flatMap layA6.g ++ b) = true := by rw [zCo, zCo, ha, hb, zAa layA6.g layA6.plain]; rfl
 have hsz : (Try.prog.types[46]).size = 4 := by kernel_rfl
 refine zEe mixed tbLw1 [0] Try.func25 (c := bodyOf Try.f25) (by kernel_rfl) ?_
 refine zCn (lgS a b l c) (fun i => l.length - i) (fun i => i ≤ l.length ∧ i ≤ 41 ∧ (l.take 41).any bigA = ((l.take 41).drop i).any bigA) 0 ⟨Nat.zero_le _, Nat.zero_le _, rfl⟩ (rcq [] ⟨⟨_, rfl, .sl _ _ _ _ _ rfl⟩, ⟨_, rfl, .int _ _⟩, trivial⟩ ⟨bpo (hplain), trivial⟩ .nil) ?_
 rintro i f ⟨hi, hi2, heq⟩
 have hi : i ≤ l.length := hi
 refine zAo tbLw1 [0] 1 _ none mixed _ _ _ ?_
 have fin : (l.take 41).length ≤ i → longA l = decide (l.length > 40) := fun h => by
  unfold longA
  rw [heq, List.drop_eq_nil_of_le h]; rfl
 refine ifK (fun h1 => ?_) (fun h1 => ?_)
 ·have h1 : i < l.length := by have := of_decide_eq_true h1; omega
  refine ifK (fun h2 => ?_) (fun h2 => ?_)
  ·have h2 : i < 41 := by have := of_decide_eq_true h2; omega
   have hm : i < (l.take 41).length := by rw [List.length_take]; omega
   have hst : ((l.take 41).drop i).any bigA = (bigA l[i] || ((l.take 41).drop (i + 1)).any bigA) := by rw [List.drop_eq_getElem_cons hm, List.getElem_take]; rfl
   rw [hst] at heq
   have c3 := RdL.cell layA6 a b l i 3 h1 (by decide)
   refine ifK (fun _ => ?_) (fun h3 => absurd h3 (by simp [inI]; omega))
   refine Exists.intro l[i].d (And.intro (by rw [hsz, Int.toNat_natCast]; exact c3) ?_)
   refine ifK (fun h3 => ?_) (fun h3 => ?_)
   ·have e : longA l = true := by unfold longA; rw [heq]; unfold bigA; rw [h3]; rfl
    refine And.intro rfl (zAl (rcq [] (d := 6) (d2 := 0) (lv := [(2, .bool true)]) (bs := []) (W := []) (m := 1) (df := []) ⟨⟨_, rfl, zAb 8 rfl⟩, trivial⟩ trivial .nil) (fun f => ?_))
    rw [e]; exact ⟨_, _, _, rfl, zAr rfl⟩
   ·refine ⟨i + 1, ⟨h1, h2, ?_⟩, by show l.length - (i + 1) < l.length - i; omega, rcq [] ⟨⟨_, rfl, .sl _ _ _ _ _ rfl⟩, zAn rfl (by rw [wrapN (by omega) (by omega)]; omega), trivial⟩ ⟨bpo (hplain), trivial⟩ .nil⟩
    rw [heq]; unfold bigA; rw [h3]; rfl
  ·have h2 : i = 41 := by have := of_decide_eq_false h2; omega
   have e := fin (by rw [List.length_take]; omega)
   refine And.intro rfl (zAl (rcq [] (d := 6) (d2 := 1) (lv := [(0, .slice (some ⟨0, a.length, none⟩) l.length c)]) (bs := [(0, .win (a ++ l.flatMap layA6.g ++ b) layA6.k)]) (W := []) (m := 1) (df := []) ⟨⟨_, rfl, .sl _ _ _ _ _ rfl⟩, trivial⟩ ⟨bpo (hplain), trivial⟩ .nil) (fun f => ?_))
   rw [e]; exact ⟨_, _, _, congrArg (fun b => Res.ret (.bool b) _ _ _) (by apply decide_eq_decide.2; omega), zAr rfl⟩
 ·have h1 : ¬ i < l.length := fun e => absurd (show ((i : Nat) : Int) < (l.length : Int) by omega) (of_decide_eq_false h1)
  have e := fin (by rw [List.length_take]; omega)
  refine And.intro rfl (zAl (rcq [] (d := 6) (d2 := 1) (lv := [(0, .slice (some ⟨0, a.length, none⟩) l.length c)]) (bs := [(0, .win (a ++ l.flatMap layA6.g ++ b) layA6.k)]) (W := []) (m := 1) (df := []) ⟨⟨_, rfl, .sl _ _ _ _ _ rfl⟩, trivial⟩ ⟨bpo (hplain), trivial⟩ .nil) (fun f => ?_))
  rw [e]; exact ⟨_, _, _, congrArg (fun b => Res.ret (.bool b) _ _ _) (by apply decide_eq_decide.2; omega), zAr rfl⟩
noncomputable def ct_long6 : Ct Try.prog 0 := CtR.rd1 layA6 25 Unit (fun _ => []) (fun l _ => .bool (longA l)) (fun l _ => True) (fun _ => rfl) (fun _ _ => rfl) (fun y z h => rfl) (by kernel_rfl)
 (fun c a b l n ha hb hl => by obtain ⟨r, hF, H, m, wr, rfl, hw⟩ := long_fn a b l c ha hb; exact ⟨H, m, wr, hF, hw⟩)
theorem longA_no {l : List A6} (h : longA l = false) : l.length ≤ 40 ∧ ∀ x ∈ l, x.d.data.size ≤ 3000 := by
 unfold longA at h
 rw [Bool.or_eq_false_iff] at h
 have h2 : l.length ≤ 40 := by have := of_decide_eq_false h.2; omega
 refine ⟨h2, fun x hx => ?_⟩
 rw [List.take_of_length_le (by omega)] at h
 have := List.any_eq_false.1 h.1 x hx
 unfold bigA at this
 have := of_decide_eq_false (by simpa using this : decide ((x.d.data.size : Int) > 3000) = false)
 omega
end Go.Proofs.Ytjdecbfjpkpepaa
namespace Go.Proofs.Ytjdecbfjpkpepaa
open Go Go.RowKit
noncomputable def cq_rdread : CtQ Try.prog :=
 { f := 10, X := RdB × Int × Int × Int, pre := fun x a H _ => a = [x.1.sl, .int .i64 x.2.1, .int .i64 x.2.2.1, .int .i64 x.2.2.2] ∧ x.1.at H ∧ x.1.n ≤ 1000000 ∧ (x.1.c = U ∨ x.1.n ≤ x.1.c ∧ x.1.c ≤ 9223372036854775807), Q := fun x v => ∃ y, v = rdV y ∧ rdQ x.1.B x.2.1 x.2.2.1 x.2.2.2 y,
   ok := fun ⟨⟨b, o, n, c, l⟩, i, z, t⟩ a H m ⟨h1, h2, h3, h4⟩ => by
    subst h1
    obtain ⟨r, hF, y, H', m', wr, rfl, hw, hq⟩ := rdread_fn l o n c i z t h2.2 h3 h4
    exact ⟨rdV y, zBv [b] hF hw zGs (.cons _ _ _ _ (.sl _ _ _ _ _ rfl) (zBp rfl)) (zEo h2.1 (byV_plain l)) rfl, y, rfl, hq⟩,
   uniq := fun ⟨x, i, z, t⟩ ⟨y, i', z', t'⟩ a H m ⟨h1, h2, _⟩ ⟨k1, k2, _⟩ => by
    rw [h1] at k1
    simp only [List.cons.injEq, Value.int.injEq, true_and, and_true] at k1
    obtain ⟨e1, rfl, rfl, rfl⟩ := k1
    rw [RdB.uniq e1 h2 k2] }
noncomputable def zSy : Ct Try.prog 0 := cq_rdread.ctY (Bs × Int × Int) rdV (fun (x : RdB × Int × Int × Int) y => rdQ x.1.B x.2.1 x.2.2.1 x.2.2.2 y) (fun _ _ h => h)
theorem rdOk.pos {B : Bl} {x : Int} {r : RR} (h : rdOk B x r) (he : r.e = 0) : x < r.next := by
 rcases h with ⟨_, rfl⟩ | ⟨a, rfl, h1, h2⟩
 ·cases he
 ·have key : ∀ {p i : Nat} {out : Bl} {bh : Int} {r : RR}, Rd B a p i out bh r → (bh < 0 → a ≤ i) → (0 ≤ bh → (a : Int) < bh) → r.e = 0 → (a : Int) < r.next := by
   intro p i out bh r h
   induction h with
   | zero h hc =>
    intro q1 q2 _
    dsimp only
    split
    ·have := q1 (by assumption); omega
    ·exact q2 (by omega)
   | ptr h hc h2 h3 hr ih =>
    intro q1 q2 he
    refine ih (fun q => ?_) (fun _ => ?_) he
    ·split at q
     ·omega
     ·omega
    ·split
     ·have := q1 (by assumption); omega
     ·exact q2 (by omega)
   | lab h hc hc2 h2 h3 hr ih => intro q1 q2 he; exact ih (fun q => by have := q1 q; omega) q2 he
   | _ => intro _ _ e; cases e
  exact key h2 (fun _ => Nat.le_refl _) (fun q => by omega) he
theorem RdP.fine {B : Bl} {a e t : Int} {ps : List Pt} {i : Int} {out : Bs} {y : Bs × Int × Int} (h : RdP B a e t ps i out y) (ha : 0 ≤ a ∧ a ≤ B.length) : (y.2.1 ≠ 0 → y.1 = [] ∧ 0 ≤ y.2.2 ∧ y.2.2 ≤ B.length) ∧ (y.2.1 = 0 → y.2.2 = 0 ∧ checkD t y.1 = 0) := by
 induction h with
 | fin h1 h2 => exact ⟨fun e => absurd rfl e, fun _ => ⟨rfl, h2⟩⟩
 | off h => exact ⟨fun _ => ⟨rfl, ha⟩, fun e => by cases e⟩
 | nmb h he => exact ⟨fun _ => ⟨rfl, h.fine.1 he⟩, fun e => absurd e he⟩
 | nmo h he h2 => exact ⟨fun _ => ⟨rfl, ha⟩, fun e => by cases e⟩
 | nmc _ _ _ _ ih => exact ih
 | rest _ ih => exact ih
 | szb h => exact ⟨fun _ => ⟨rfl, ha⟩, fun e => by cases e⟩
 | szc _ _ ih => exact ih
theorem rdQ.fine {B : Bl} {a z t : Int} {y : Bs × Int × Int} (h : rdQ B a z t y) : (y.2.1 ≠ 0 → y.1 = [] ∧ 0 ≤ y.2.2 ∧ y.2.2 ≤ B.length) ∧ (y.2.1 = 0 → y.2.2 = 0 ∧ checkD t y.1 = 0 ∧ 0 ≤ z ∧ a + z ≤ B.length) := by
 unfold rdQ at h
 split at h
 ·subst h; exact ⟨fun _ => ⟨rfl, Int.le_refl _, Int.natCast_nonneg _⟩, fun e => by cases e⟩
 ·split at h
  ·subst h; exact ⟨fun _ => ⟨rfl, Int.le_refl _, Int.natCast_nonneg _⟩, fun e => by cases e⟩
  ·split at h
   ·subst h; exact ⟨fun _ => ⟨rfl, Int.natCast_nonneg _, Int.le_refl _⟩, fun e => by cases e⟩
   ·cases hp : ptsT t with
    | none =>
     rw [hp] at h
     subst h
     exact ⟨fun e => absurd rfl e, fun _ => ⟨rfl, zSx hp (by omega) (by rw [List.length_take]; omega), by omega, by omega⟩⟩
    | some ps =>
     rw [hp] at h
     obtain ⟨q1, q2⟩ := RdP.fine h (by omega)
     exact ⟨q1, fun e => ⟨(q2 e).1, (q2 e).2, by omega, by omega⟩⟩
end Go.Proofs.Ytjdecbfjpkpepaa
namespace Go.Proofs.Ytjdecbfjpkpepaa
open Go Go.RowKit
noncomputable def inl_newB : Ct Try.prog 0 := Ct.inl (tbOf mixed []) mixed [] 24 Try.f24 Try.func24 (bodyOf Try.f24) (by kernel_rfl)
noncomputable def tbBk : Tb Try.prog 0 := tbOf mixed [inl_newB, ct_long6, ct_pick, zGr, ct_write, zSy, Ct.yes 9 zPf]
abbrev Wt := Nat × Nat × A6
def atV (y : Wt) : Value := .int .i64 (y.1 : Int)
def szV (y : Wt) : Value := .int .i64 (y.2.1 : Int)
def acV (y : Wt) : List Value := layA6.g y.2.2
theorem zHg {G : Gh} {c k sz : Nat} {l : Bl} (hs : sz = 1) (hG : (G 1).bind AObj.look = some (l.map byV)) (hk : k ≤ l.length) {x : Nat} (hx : x = 0 := by first | rfl | simp) : zAk G sz (.slice (some ⟨1, x, none⟩) k c) = some (k, (l.take k).map byV) := by
 subst hs; subst hx
 unfold zAk
 cases hl : Nat.beq k 0 with
 | true =>
  have : k = 0 := Nat.eq_of_beq_eq_true hl
  subst this
  simp
 | false =>
  simp only [cond_false, hG]
  rw [show (0 + k * 1).ble (l.map byV).length = true from Nat.ble_eq_true_of_le (by simp; omega)]
  simp [hl, List.map_take]
theorem zAe (R : List Wt) : plainL (R.map atV) = true := by unfold plainL; rw [List.all_map]; exact List.all_eq_true.2 fun _ _ => rfl
theorem zAf (R : List Wt) : plainL (R.map szV) = true := by unfold plainL; rw [List.all_map]; exact List.all_eq_true.2 fun _ _ => rfl
theorem zAd (R : List Wt) : plainL (R.flatMap acV) = true := zAa acV (fun y => layA6.plain y.2.2) R
theorem zAh {σ : Nat → Nat → Prop} (T : List (Bl × Nat)) (ck : Nat) : RO Try.prog σ (.map (encT T) ck) (.map (encT T) ck) := RO.map _ _ _ (zAi _)
theorem factB {l : List A6} (hd : ∀ x ∈ l, x.d.data.size ≤ 3000) (i : Nat) (h : i < l.length) {x : A6} (hx : l[i] = x) : inI (i : Int) l.length = true ∧ (∀ j (_ : j < 4), (l.flatMap layA6.g)[0 + ((i : Int)).toNat * (Try.prog.types[46]).size + j]? = x.g[j]?) ∧
  (0 + ((i : Int)).toNat * (Try.prog.types[46]).size + (Try.prog.types[46]).size ≤ (l.flatMap layA6.g).length ∧ ((l.flatMap layA6.g).drop (0 + ((i : Int)).toNat * (Try.prog.types[46]).size)).take (Try.prog.types[46]).size = x.g) ∧ shortB x.d = true ∧ (bs x.d).length ≤ 3000 := by
 have hsz : (Try.prog.types[46]).size = 4 := by kernel_rfl
 subst hx
 have hdd := hd _ (List.getElem_mem h)
 have e : l[i].d.data.size = l[i].d.size := rfl
 refine ⟨by simp [inI]; omega, fun j hj => ?_, ?_, ?_, by rw [← zAg]; exact hdd⟩
 ·have := RdL.cell layA6 [] [] l i j h hj
  rw [List.nil_append, List.append_nil, List.length_nil] at this
  rw [hsz, Int.toNat_natCast]; exact this
 ·have := RdL.get layA6 [] [] l i h
  rw [List.nil_append, List.append_nil, List.length_nil] at this
  rw [hsz, Int.toNat_natCast]; exact this
 ·unfold shortB; exact Nat.ble_eq_true_of_le (by omega)
def bkE (l : List A6) (c : Nat) (bw : Bl) (cb i : Nat) (T : List (Bl × Nat)) (en ck : Nat) (b : Bl) (Rs : List Wt) (f : Nat → Option Value) : Fs := match b, Rs with
 | [], [] => ⟨slots 8 [(0, .slice (some ⟨0, 0, none⟩) l.length c), (1, .slice (some ⟨1, 0, none⟩) bw.length cb), (5, .bool true), (6, .pointer (some ⟨3, 0, none⟩)), (7, .slice none 0 0), (8, .slice none 0 0), (9, .slice none 0 0), (10, .slice none 0 0), (11, .int .i64 (i : Int))] f, heap 4 [(0, .win (l.flatMap layA6.g) layA6.k), (1, .win (bw.map byV) 1), (2, .map (encT T) ck), (3, .cells [.map (some 2), .int .i64 (en : Int)] 81)], 4, [], []⟩
 | [], r :: R => ⟨slots 8 [(0, .slice (some ⟨0, 0, none⟩) l.length c), (1, .slice (some ⟨1, 0, none⟩) bw.length cb), (5, .bool true), (6, .pointer (some ⟨3, 0, none⟩)), (7, .slice none 0 0), (8, .slice (some ⟨4, 0, none⟩) (R.length + 1) U), (9, .slice (some ⟨5, 0, none⟩) (R.length + 1) U), (10, .slice (some ⟨6, 0, none⟩) (R.length + 1) U), (11, .int .i64 (i : Int))] f, heap 4 [(0, .win (l.flatMap layA6.g) layA6.k), (1, .win (bw.map byV) 1), (2, .map (encT T) ck), (3, .cells [.map (some 2), .int .i64 (en : Int)] 81), (4, .cells ((r :: R).map atV) 3), (5, .cells ((r :: R).map szV) 3), (6, .cells ((r :: R).flatMap acV) 46)], 7, [], []⟩
 | u :: us, [] => ⟨slots 8 [(0, .slice (some ⟨0, 0, none⟩) l.length c), (1, .slice (some ⟨1, 0, none⟩) bw.length cb), (5, .bool true), (6, .pointer (some ⟨3, 0, none⟩)), (7, .slice (some ⟨4, 0, none⟩) (us.length + 1) U), (8, .slice none 0 0), (9, .slice none 0 0), (10, .slice none 0 0), (11, .int .i64 (i : Int))] f, heap 4 [(0, .win (l.flatMap layA6.g) layA6.k), (1, .win (bw.map byV) 1), (2, .map (encT T) ck), (3, .cells [.map (some 2), .int .i64 (en : Int)] 81), (4, .cells ((u :: us).map byV) 5)], 5, [], []⟩
 | u :: us, r :: R => ⟨slots 8 [(0, .slice (some ⟨0, 0, none⟩) l.length c), (1, .slice (some ⟨1, 0, none⟩) bw.length cb), (5, .bool true), (6, .pointer (some ⟨3, 0, none⟩)), (7, .slice (some ⟨4, 0, none⟩) (us.length + 1) U), (8, .slice (some ⟨5, 0, none⟩) (R.length + 1) U), (9, .slice (some ⟨6, 0, none⟩) (R.length + 1) U), (10, .slice (some ⟨7, 0, none⟩) (R.length + 1) U), (11, .int .i64 (i : Int))] f, heap 4 [(0, .win (l.flatMap layA6.g) layA6.k), (1, .win (bw.map byV) 1), (2, .map (encT T) ck), (3, .cells [.map (some 2), .int .i64 (en : Int)] 81), (4, .cells ((u :: us).map byV) 5), (5, .cells ((r :: R).map atV) 3), (6, .cells ((r :: R).map szV) 3), (7, .cells ((r :: R).flatMap acV) 46)], 8, [], []⟩
def bkF (l : List A6) (c : Nat) (bw : Bl) (cb i : Nat) (T : List (Bl × Nat)) (en ck : Nat) (b : Bl) (Rs : List Wt) (z : Bl) (f : Nat → Option Value) : Fs := match b, Rs, z with
 | [], [], [] => ⟨slots 8 [(0, .slice (some ⟨0, 0, none⟩) l.length c), (1, .slice (some ⟨1, 0, none⟩) bw.length cb), (5, .bool true), (6, .pointer (some ⟨3, 0, none⟩)), (7, .slice none 0 0), (8, .slice none 0 0), (9, .slice none 0 0), (10, .slice none 0 0), (11, .int .i64 (i : Int)), (12, .slice none 0 0), (13, .int .i64 0)] f, heap 4 [(0, .win (l.flatMap layA6.g) layA6.k), (1, .win (bw.map byV) 1), (2, .map (encT T) ck), (3, .cells [.map (some 2), .int .i64 (en : Int)] 81)], 4, [], []⟩
 | [], [], x :: xs => ⟨slots 8 [(0, .slice (some ⟨0, 0, none⟩) l.length c), (1, .slice (some ⟨1, 0, none⟩) bw.length cb), (5, .bool true), (6, .pointer (some ⟨3, 0, none⟩)), (7, .slice none 0 0), (8, .slice none 0 0), (9, .slice none 0 0), (10, .slice none 0 0), (11, .int .i64 (i : Int)), (12, .slice (some ⟨4, 0, none⟩) (xs.length + 1) U), (13, .int .i64 0)] f, heap 4 [(0, .win (l.flatMap layA6.g) layA6.k), (1, .win (bw.map byV) 1), (2, .map (encT T) ck), (3, .cells [.map (some 2), .int .i64 (en : Int)] 81), (4, .cells ((x :: xs).map byV) 5)], 5, [], []⟩
 | [], r :: R, [] => ⟨slots 8 [(0, .slice (some ⟨0, 0, none⟩) l.length c), (1, .slice (some ⟨1, 0, none⟩) bw.length cb), (5, .bool true), (6, .pointer (some ⟨3, 0, none⟩)), (7, .slice none 0 0), (8, .slice (some ⟨4, 0, none⟩) (R.length + 1) U), (9, .slice (some ⟨5, 0, none⟩) (R.length + 1) U), (10, .slice (some ⟨6, 0, none⟩) (R.length + 1) U), (11, .int .i64 (i : Int)), (12, .slice none 0 0), (13, .int .i64 0)] f, heap 4 [(0, .win (l.flatMap layA6.g) layA6.k), (1, .win (bw.map byV) 1), (2, .map (encT T) ck), (3, .cells [.map (some 2), .int .i64 (en : Int)] 81), (4, .cells ((r :: R).map atV) 3), (5, .cells ((r :: R).map szV) 3), (6, .cells ((r :: R).flatMap acV) 46)], 7, [], []⟩
 | [], r :: R, x :: xs => ⟨slots 8 [(0, .slice (some ⟨0, 0, none⟩) l.length c), (1, .slice (some ⟨1, 0, none⟩) bw.length cb), (5, .bool true), (6, .pointer (some ⟨3, 0, none⟩)), (7, .slice none 0 0), (8, .slice (some ⟨4, 0, none⟩) (R.length + 1) U), (9, .slice (some ⟨5, 0, none⟩) (R.length + 1) U), (10, .slice (some ⟨6, 0, none⟩) (R.length + 1) U), (11, .int .i64 (i : Int)), (12, .slice (some ⟨7, 0, none⟩) (xs.length + 1) U), (13, .int .i64 0)] f, heap 4 [(0, .win (l.flatMap layA6.g) layA6.k), (1, .win (bw.map byV) 1), (2, .map (encT T) ck), (3, .cells [.map (some 2), .int .i64 (en : Int)] 81), (4, .cells ((r :: R).map atV) 3), (5, .cells ((r :: R).map szV) 3), (6, .cells ((r :: R).flatMap acV) 46), (7, .cells ((x :: xs).map byV) 5)], 8, [], []⟩
 | u :: us, [], [] => ⟨slots 8 [(0, .slice (some ⟨0, 0, none⟩) l.length c), (1, .slice (some ⟨1, 0, none⟩) bw.length cb), (5, .bool true), (6, .pointer (some ⟨3, 0, none⟩)), (7, .slice (some ⟨4, 0, none⟩) (us.length + 1) U), (8, .slice none 0 0), (9, .slice none 0 0), (10, .slice none 0 0), (11, .int .i64 (i : Int)), (12, .slice none 0 0), (13, .int .i64 0)] f, heap 4 [(0, .win (l.flatMap layA6.g) layA6.k), (1, .win (bw.map byV) 1), (2, .map (encT T) ck), (3, .cells [.map (some 2), .int .i64 (en : Int)] 81), (4, .cells ((u :: us).map byV) 5)], 5, [], []⟩
 | u :: us, [], x :: xs => ⟨slots 8 [(0, .slice (some ⟨0, 0, none⟩) l.length c), (1, .slice (some ⟨1, 0, none⟩) bw.length cb), (5, .bool true), (6, .pointer (some ⟨3, 0, none⟩)), (7, .slice (some ⟨4, 0, none⟩) (us.length + 1) U), (8, .slice none 0 0), (9, .slice none 0 0), (10, .slice none 0 0), (11, .int .i64 (i : Int)), (12, .slice (some ⟨5, 0, none⟩) (xs.length + 1) U), (13, .int .i64 0)] f, heap 4 [(0, .win (l.flatMap layA6.g) layA6.k), (1, .win (bw.map byV) 1), (2, .map (encT T) ck), (3, .cells [.map (some 2), .int .i64 (en : Int)] 81), (4, .cells ((u :: us).map byV) 5), (5, .cells ((x :: xs).map byV) 5)], 6, [], []⟩
 | u :: us, r :: R, [] => ⟨slots 8 [(0, .slice (some ⟨0, 0, none⟩) l.length c), (1, .slice (some ⟨1, 0, none⟩) bw.length cb), (5, .bool true), (6, .pointer (some ⟨3, 0, none⟩)), (7, .slice (some ⟨4, 0, none⟩) (us.length + 1) U), (8, .slice (some ⟨5, 0, none⟩) (R.length + 1) U), (9, .slice (some ⟨6, 0, none⟩) (R.length + 1) U), (10, .slice (some ⟨7, 0, none⟩) (R.length + 1) U), (11, .int .i64 (i : Int)), (12, .slice none 0 0), (13, .int .i64 0)] f, heap 4 [(0, .win (l.flatMap layA6.g) layA6.k), (1, .win (bw.map byV) 1), (2, .map (encT T) ck), (3, .cells [.map (some 2), .int .i64 (en : Int)] 81), (4, .cells ((u :: us).map byV) 5), (5, .cells ((r :: R).map atV) 3), (6, .cells ((r :: R).map szV) 3), (7, .cells ((r :: R).flatMap acV) 46)], 8, [], []⟩
 | u :: us, r :: R, x :: xs => ⟨slots 8 [(0, .slice (some ⟨0, 0, none⟩) l.length c), (1, .slice (some ⟨1, 0, none⟩) bw.length cb), (5, .bool true), (6, .pointer (some ⟨3, 0, none⟩)), (7, .slice (some ⟨4, 0, none⟩) (us.length + 1) U), (8, .slice (some ⟨5, 0, none⟩) (R.length + 1) U), (9, .slice (some ⟨6, 0, none⟩) (R.length + 1) U), (10, .slice (some ⟨7, 0, none⟩) (R.length + 1) U), (11, .int .i64 (i : Int)), (12, .slice (some ⟨8, 0, none⟩) (xs.length + 1) U), (13, .int .i64 0)] f, heap 4 [(0, .win (l.flatMap layA6.g) layA6.k), (1, .win (bw.map byV) 1), (2, .map (encT T) ck), (3, .cells [.map (some 2), .int .i64 (en : Int)] 81), (4, .cells ((u :: us).map byV) 5), (5, .cells ((r :: R).map atV) 3), (6, .cells ((r :: R).map szV) 3), (7, .cells ((r :: R).flatMap acV) 46), (8, .cells ((x :: xs).map byV) 5)], 9, [], []⟩
theorem bkx_00 (l : List A6) (c : Nat) (bw : Bl) (cb i : Nat) (T : List (Bl × Nat)) (en ck : Nat) (f : Nat → Option Value) (hd : ∀ x ∈ l, x.d.data.size ≤ 3000) (_ : l.length ≤ 40) (_ : bw.length ≤ 100) (_ : bw.length ≤ cb ∧ cb ≤ 9223372036854775807) (h1 : i < l.length) (t a0 : Int) (raw : Bool) (d : ByteArray) (hx : l[i] = ⟨t, a0, raw, d⟩) : CW Try.prog 0 2 (2 + (Try.f7.ntmps - 2)) none (codeAt (loopAt Try.f7 0) [0]) (bkE l c bw cb i T en ck [] [] f) (stepK Try.prog 0 2 (2 + (Try.f7.ntmps - 2)) none (bkE l c bw cb i T en ck [] [])) := by
 have hpl : plainL (l.flatMap layA6.g) = true := zAa layA6.g layA6.plain _
 obtain ⟨dom, cell, row, hsh, hdl⟩ := factB hd i h1 hx
 have hdl : (bs d).length ≤ 3000 := hdl
 have hsh : shortB d = true := hsh
 refine zAo tbBk [0] 2 _ none mixed _ _ _ ?_
 refine ifK (fun _ => ?_) (fun g => absurd (show ((i : Nat) : Int) < (l.length : Int) by omega) (of_decide_eq_false g))
 exact rcq [2, 3] ⟨⟨_, rfl, .sl _ _ _ _ _ rfl⟩, ⟨_, rfl, .sl _ _ _ _ _ rfl⟩, ⟨_, rfl, .bool _⟩, ⟨_, rfl, .ptr _ _ _ rfl⟩, ⟨_, rfl, zAb 8 rfl⟩, ⟨_, rfl, zAb 8 rfl⟩, ⟨_, rfl, zAb 8 rfl⟩, ⟨_, rfl, zAb 8 rfl⟩, ⟨_, rfl, .int _ _⟩, trivial⟩ ⟨bpo (hpl), bpo (byV_plain bw), ⟨by decide, _, rfl, zAh _ _⟩, ⟨by decide, _, rfl, zAc 2 2 (by exact rfl) _⟩, trivial⟩ .nil
theorem bky_100 (l : List A6) (c : Nat) (bw : Bl) (cb i : Nat) (T : List (Bl × Nat)) (en ck : Nat) (f : Nat → Option Value) (hd : ∀ x ∈ l, x.d.data.size ≤ 3000) (_ : l.length ≤ 40) (_ : bw.length ≤ 100) (_ : bw.length ≤ cb ∧ cb ≤ 9223372036854775807) (h1 : i < l.length) (t a0 : Int) (raw : Bool) (d : ByteArray) (hx : l[i] = ⟨t, a0, raw, d⟩) (hck : checkD t (bs d) = 0) : CW Try.prog 0 2 (2 + (Try.f7.ntmps - 2)) none (codeAt (loopAt Try.f7 0) [1, 0, 0]) (bkE l c bw cb i T en ck [] [] f) (stepK Try.prog 0 2 (2 + (Try.f7.ntmps - 2)) none (bkE l c bw cb i T en ck [] [])) := by
 have hpl : plainL (l.flatMap layA6.g) = true := zAa layA6.g layA6.plain _
 obtain ⟨dom, cell, row, hsh, hdl⟩ := factB hd i h1 hx
 have hdl : (bs d).length ≤ 3000 := hdl
 have hsh : shortB d = true := hsh
 refine zAo tbBk [0] 2 _ none mixed _ _ _ ?_
 refine And.intro (by kernel_rfl) ?_
 refine ifK (fun _ => ?_) (fun h2 => absurd (dom.symm.trans h2) (by decide))
 refine Exists.intro t (And.intro (cell 0 (by decide)) ?_)
 refine ifK (fun _ => ?_) (fun h2 => absurd (dom.symm.trans h2) (by decide))
 refine Exists.intro d (And.intro (cell 3 (by decide)) ?_)
 refine And.intro hsh ?_
 refine ifK (fun g => absurd hck (by simpa using g)) (fun _ => ?_)
 exact rcq [2, 3] ⟨⟨_, rfl, .sl _ _ _ _ _ rfl⟩, ⟨_, rfl, .sl _ _ _ _ _ rfl⟩, ⟨_, rfl, .bool _⟩, ⟨_, rfl, .ptr _ _ _ rfl⟩, ⟨_, rfl, zAb 8 rfl⟩, ⟨_, rfl, zAb 8 rfl⟩, ⟨_, rfl, zAb 8 rfl⟩, ⟨_, rfl, zAb 8 rfl⟩, ⟨_, rfl, .int _ _⟩, trivial⟩ ⟨bpo (hpl), bpo (byV_plain bw), ⟨by decide, _, rfl, zAh _ _⟩, ⟨by decide, _, rfl, zAc 2 2 (by exact rfl) _⟩, trivial⟩ .nil
theorem bky_000 (l : List A6) (c : Nat) (bw : Bl) (cb i : Nat) (T : List (Bl × Nat)) (en ck : Nat) (f : Nat → Option Value) (hd : ∀ x ∈ l, x.d.data.size ≤ 3000) (_ : l.length ≤ 40) (_ : bw.length ≤ 100) (_ : bw.length ≤ cb ∧ cb ≤ 9223372036854775807) (h1 : i < l.length) (t a0 : Int) (raw : Bool) (d : ByteArray) (hx : l[i] = ⟨t, a0, raw, d⟩) (hck : checkD t (bs d) ≠ 0) : CW Try.prog 0 2 (2 + (Try.f7.ntmps - 2)) none (codeAt (loopAt Try.f7 0) [1, 0, 0]) (bkE l c bw cb i T en ck [] [] f) (fun x s1 => x = .exit 1 ∧ ∃ f, RcM Try.prog 0 2 (2 + (Try.f7.ntmps - 2)) none s1 (bkE l c bw cb i T en ck [] [] f)) := by
 have hpl : plainL (l.flatMap layA6.g) = true := zAa layA6.g layA6.plain _
 obtain ⟨dom, cell, row, hsh, hdl⟩ := factB hd i h1 hx
 have hdl : (bs d).length ≤ 3000 := hdl
 have hsh : shortB d = true := hsh
 refine zAo tbBk [0] 2 _ none mixed _ _ _ ?_
 refine And.intro (by kernel_rfl) ?_
 refine ifK (fun _ => ?_) (fun h2 => absurd (dom.symm.trans h2) (by decide))
 refine Exists.intro t (And.intro (cell 0 (by decide)) ?_)
 refine ifK (fun _ => ?_) (fun h2 => absurd (dom.symm.trans h2) (by decide))
 refine Exists.intro d (And.intro (cell 3 (by decide)) ?_)
 refine And.intro hsh ?_
 refine ifK (fun _ => ⟨rfl, rcq [2, 3] ⟨⟨_, rfl, .sl _ _ _ _ _ rfl⟩, ⟨_, rfl, .sl _ _ _ _ _ rfl⟩, ⟨_, rfl, .bool _⟩, ⟨_, rfl, .ptr _ _ _ rfl⟩, ⟨_, rfl, zAb 8 rfl⟩, ⟨_, rfl, zAb 8 rfl⟩, ⟨_, rfl, zAb 8 rfl⟩, ⟨_, rfl, zAb 8 rfl⟩, ⟨_, rfl, .int _ _⟩, trivial⟩ ⟨bpo (hpl), bpo (byV_plain bw), ⟨by decide, _, rfl, zAh _ _⟩, ⟨by decide, _, rfl, zAc 2 2 (by exact rfl) _⟩, trivial⟩ .nil⟩) (fun g => absurd (by simpa using g) hck)
theorem bkz_000 (l : List A6) (c : Nat) (bw : Bl) (cb i : Nat) (T : List (Bl × Nat)) (en ck : Nat) (f : Nat → Option Value) (hd : ∀ x ∈ l, x.d.data.size ≤ 3000) (_ : l.length ≤ 40) (_ : bw.length ≤ 100) (hcb : bw.length ≤ cb ∧ cb ≤ 9223372036854775807) (h1 : i < l.length) (t a0 : Int) (raw : Bool) (d : ByteArray) (hx : l[i] = ⟨t, a0, raw, d⟩) (k : Nat) (hk : pickI a0 (IntKind.i64.wrap ((bw.length : Int) + 1)) = (k : Int)) (hkl : k ≤ bw.length) (hW : bw.take k = []) : CW Try.prog 0 2 (2 + (Try.f7.ntmps - 2)) none (codeAt (loopAt Try.f7 0) [1, 0, 1, 0]) (bkE l c bw cb i T en ck [] [] f) (stepK Try.prog 0 2 (2 + (Try.f7.ntmps - 2)) none (bkE l c bw cb i T en ck [] [])) := by
 have hpl : plainL (l.flatMap layA6.g) = true := zAa layA6.g layA6.plain _
 obtain ⟨dom, cell, row, hsh, hdl⟩ := factB hd i h1 hx
 have hdl : (bs d).length ≤ 3000 := hdl
 have hsh : shortB d = true := hsh
 have h1s : (Try.prog.types[5]).size = 1 := by kernel_rfl
 have hby : (Try.prog.types[5]).bytes = 1 := by kernel_rfl
 refine zAo tbBk [0, 1] 2 _ none mixed _ _ _ ?_
 refine ifK (fun _ => ?_) (fun h2 => absurd (dom.symm.trans h2) (by decide))
 refine Exists.intro a0 (And.intro (cell 1 (by decide)) ?_)
 refine ifK (fun g => absurd (Nat.eq_of_beq_eq_true g) (by unfold U; omega)) (fun _ => ?_)
 have hkt : (pickI a0 (IntKind.i64.wrap ((bw.length : Int) + 1))).toNat - Int.toNat 0 = k := by rw [hk]; simp
 refine And.intro (by rw [hk]; simp only [inLH, Bool.and_eq_true, decide_eq_true_eq]; exact ⟨⟨⟨by omega, by omega⟩, Nat.ble_eq_true_of_le hcb.1⟩, Nat.ble_eq_true_of_le (by simp; omega)⟩) ?_
 refine Exists.intro ([].map byV) (And.intro (by rw [hkt, ← hW]; exact zHg h1s rfl hkl) ?_)
 refine ifK (fun _ => ?_) (fun g => absurd (show k = 0 by have := congrArg List.length hW; rw [List.length_take, Nat.min_eq_left hkl] at this; exact this) (fun e => by rw [hkt, e] at g; cases g))
 exact rcq [2, 3] ⟨⟨_, rfl, .sl _ _ _ _ _ rfl⟩, ⟨_, rfl, .sl _ _ _ _ _ rfl⟩, ⟨_, rfl, .bool _⟩, ⟨_, rfl, .ptr _ _ _ rfl⟩, ⟨_, rfl, zAb 8 rfl⟩, ⟨_, rfl, zAb 8 rfl⟩, ⟨_, rfl, zAb 8 rfl⟩, ⟨_, rfl, zAb 8 rfl⟩, ⟨_, rfl, .int _ _⟩, trivial⟩ ⟨bpo (hpl), bpo (byV_plain bw), ⟨by decide, _, rfl, zAh _ _⟩, ⟨by decide, _, rfl, zAc 2 2 (by exact rfl) _⟩, trivial⟩ .nil
theorem bkz_100 (l : List A6) (c : Nat) (bw : Bl) (cb i : Nat) (T : List (Bl × Nat)) (en ck : Nat) (f : Nat → Option Value) (hd : ∀ x ∈ l, x.d.data.size ≤ 3000) (_ : l.length ≤ 40) (hbw : bw.length ≤ 100) (hcb : bw.length ≤ cb ∧ cb ≤ 9223372036854775807) (h1 : i < l.length) (t a0 : Int) (raw : Bool) (d : ByteArray) (hx : l[i] = ⟨t, a0, raw, d⟩) (v : UInt8) (vs : Bl) (k : Nat) (hk : pickI a0 (IntKind.i64.wrap ((bw.length : Int) + 1)) = (k : Int)) (hkl : k ≤ bw.length) (hW : bw.take k = (v :: vs)) : CW Try.prog 0 2 (2 + (Try.f7.ntmps - 2)) none (codeAt (loopAt Try.f7 0) [1, 0, 1, 0]) (bkE l c bw cb i T en ck [] [] f) (stepK Try.prog 0 2 (2 + (Try.f7.ntmps - 2)) none (bkE l c bw cb i T en ck (v :: vs) [])) := by
 have hpl : plainL (l.flatMap layA6.g) = true := zAa layA6.g layA6.plain _
 obtain ⟨dom, cell, row, hsh, hdl⟩ := factB hd i h1 hx
 have hdl : (bs d).length ≤ 3000 := hdl
 have hsh : shortB d = true := hsh
 have h1s : (Try.prog.types[5]).size = 1 := by kernel_rfl
 have hby : (Try.prog.types[5]).bytes = 1 := by kernel_rfl
 refine zAo tbBk [0, 1] 2 _ none mixed _ _ _ ?_
 refine ifK (fun _ => ?_) (fun h2 => absurd (dom.symm.trans h2) (by decide))
 refine Exists.intro a0 (And.intro (cell 1 (by decide)) ?_)
 refine ifK (fun g => absurd (Nat.eq_of_beq_eq_true g) (by unfold U; omega)) (fun _ => ?_)
 have hkt : (pickI a0 (IntKind.i64.wrap ((bw.length : Int) + 1))).toNat - Int.toNat 0 = k := by rw [hk]; simp
 refine And.intro (by rw [hk]; simp only [inLH, Bool.and_eq_true, decide_eq_true_eq]; exact ⟨⟨⟨by omega, by omega⟩, Nat.ble_eq_true_of_le hcb.1⟩, Nat.ble_eq_true_of_le (by simp; omega)⟩) ?_
 refine Exists.intro ((v :: vs).map byV) (And.intro (by rw [hkt, ← hW]; exact zHg h1s rfl hkl) ?_)
 refine ifK (fun g => absurd (show k = 0 by rw [hkt] at g; exact Nat.eq_of_beq_eq_true g) (fun e => by rw [e] at hW; cases hW)) (fun _ => ?_)
 have hkv : k = vs.length + 1 := by have := congrArg List.length hW; rw [List.length_take, Nat.min_eq_left hkl] at this; exact this
 have hone : oneL ((v :: vs).map byV) = true := oneB _
 refine And.intro (by rw [hby, hkt]; simp only [Bool.and_eq_true]; exact ⟨decide_eq_true (by omega), decide_eq_true (by omega)⟩) ?_
 have hlen : (pickI a0 (IntKind.i64.wrap ((bw.length : Int) + 1))).toNat - Int.toNat 0 = vs.length + 1 := by rw [hkt, hkv]
 have hcells : (v :: vs).map byV = (v :: vs).map byV := rfl
 exact rcq [2, 3, 4] ⟨⟨_, rfl, .sl _ _ _ _ _ rfl⟩, ⟨_, rfl, .sl _ _ _ _ _ rfl⟩, ⟨_, rfl, .bool _⟩, ⟨_, rfl, .ptr _ _ _ rfl⟩, ⟨_, rfl, by show RV _ (.slice _ ((pickI a0 (IntKind.i64.wrap ((bw.length : Int) + 1))).toNat - Int.toNat 0) U) _; rw [hlen]; exact .sl _ _ _ _ _ rfl⟩, ⟨_, rfl, zAb 8 rfl⟩, ⟨_, rfl, zAb 8 rfl⟩, ⟨_, rfl, zAb 8 rfl⟩, ⟨_, rfl, .int _ _⟩, trivial⟩ ⟨bpo (hpl), bpo (byV_plain bw), ⟨by decide, _, rfl, zAh _ _⟩, ⟨by decide, _, rfl, zAc 2 2 (by exact rfl) _⟩, ⟨by decide, _, rfl, zAw hcells (byV_plain _)⟩, trivial⟩ .nil
theorem bkx_01 (l : List A6) (c : Nat) (bw : Bl) (cb i : Nat) (T : List (Bl × Nat)) (en ck : Nat) (f : Nat → Option Value) (hd : ∀ x ∈ l, x.d.data.size ≤ 3000) (_ : l.length ≤ 40) (_ : bw.length ≤ 100) (_ : bw.length ≤ cb ∧ cb ≤ 9223372036854775807) (h1 : i < l.length) (t a0 : Int) (raw : Bool) (d : ByteArray) (hx : l[i] = ⟨t, a0, raw, d⟩) (r : Wt) (R : List Wt) : CW Try.prog 0 2 (2 + (Try.f7.ntmps - 2)) none (codeAt (loopAt Try.f7 0) [0]) (bkE l c bw cb i T en ck [] (r :: R) f) (stepK Try.prog 0 2 (2 + (Try.f7.ntmps - 2)) none (bkE l c bw cb i T en ck [] (r :: R))) := by
 have hpl : plainL (l.flatMap layA6.g) = true := zAa layA6.g layA6.plain _
 obtain ⟨dom, cell, row, hsh, hdl⟩ := factB hd i h1 hx
 have hdl : (bs d).length ≤ 3000 := hdl
 have hsh : shortB d = true := hsh
 refine zAo tbBk [0] 2 _ none mixed _ _ _ ?_
 refine ifK (fun _ => ?_) (fun g => absurd (show ((i : Nat) : Int) < (l.length : Int) by omega) (of_decide_eq_false g))
 exact rcq [2, 3, 4, 5, 6] ⟨⟨_, rfl, .sl _ _ _ _ _ rfl⟩, ⟨_, rfl, .sl _ _ _ _ _ rfl⟩, ⟨_, rfl, .bool _⟩, ⟨_, rfl, .ptr _ _ _ rfl⟩, ⟨_, rfl, zAb 8 rfl⟩, ⟨_, rfl, .sl _ _ _ _ _ rfl⟩, ⟨_, rfl, .sl _ _ _ _ _ rfl⟩, ⟨_, rfl, .sl _ _ _ _ _ rfl⟩, ⟨_, rfl, .int _ _⟩, trivial⟩ ⟨bpo (hpl), bpo (byV_plain bw), ⟨by decide, _, rfl, zAh _ _⟩, ⟨by decide, _, rfl, zAc 2 2 (by exact rfl) _⟩, bpo (zAe (r :: R)), bpo (zAf (r :: R)), bpo (zAd (r :: R)), trivial⟩ .nil
theorem bky_101 (l : List A6) (c : Nat) (bw : Bl) (cb i : Nat) (T : List (Bl × Nat)) (en ck : Nat) (f : Nat → Option Value) (hd : ∀ x ∈ l, x.d.data.size ≤ 3000) (_ : l.length ≤ 40) (_ : bw.length ≤ 100) (_ : bw.length ≤ cb ∧ cb ≤ 9223372036854775807) (h1 : i < l.length) (t a0 : Int) (raw : Bool) (d : ByteArray) (hx : l[i] = ⟨t, a0, raw, d⟩) (r : Wt) (R : List Wt) (hck : checkD t (bs d) = 0) : CW Try.prog 0 2 (2 + (Try.f7.ntmps - 2)) none (codeAt (loopAt Try.f7 0) [1, 0, 0]) (bkE l c bw cb i T en ck [] (r :: R) f) (stepK Try.prog 0 2 (2 + (Try.f7.ntmps - 2)) none (bkE l c bw cb i T en ck [] (r :: R))) := by
 have hpl : plainL (l.flatMap layA6.g) = true := zAa layA6.g layA6.plain _
 obtain ⟨dom, cell, row, hsh, hdl⟩ := factB hd i h1 hx
 have hdl : (bs d).length ≤ 3000 := hdl
 have hsh : shortB d = true := hsh
 refine zAo tbBk [0] 2 _ none mixed _ _ _ ?_
 refine And.intro (by kernel_rfl) ?_
 refine ifK (fun _ => ?_) (fun h2 => absurd (dom.symm.trans h2) (by decide))
 refine Exists.intro t (And.intro (cell 0 (by decide)) ?_)
 refine ifK (fun _ => ?_) (fun h2 => absurd (dom.symm.trans h2) (by decide))
 refine Exists.intro d (And.intro (cell 3 (by decide)) ?_)
 refine And.intro hsh ?_
 refine ifK (fun g => absurd hck (by simpa using g)) (fun _ => ?_)
 exact rcq [2, 3, 4, 5, 6] ⟨⟨_, rfl, .sl _ _ _ _ _ rfl⟩, ⟨_, rfl, .sl _ _ _ _ _ rfl⟩, ⟨_, rfl, .bool _⟩, ⟨_, rfl, .ptr _ _ _ rfl⟩, ⟨_, rfl, zAb 8 rfl⟩, ⟨_, rfl, .sl _ _ _ _ _ rfl⟩, ⟨_, rfl, .sl _ _ _ _ _ rfl⟩, ⟨_, rfl, .sl _ _ _ _ _ rfl⟩, ⟨_, rfl, .int _ _⟩, trivial⟩ ⟨bpo (hpl), bpo (byV_plain bw), ⟨by decide, _, rfl, zAh _ _⟩, ⟨by decide, _, rfl, zAc 2 2 (by exact rfl) _⟩, bpo (zAe (r :: R)), bpo (zAf (r :: R)), bpo (zAd (r :: R)), trivial⟩ .nil
theorem bky_001 (l : List A6) (c : Nat) (bw : Bl) (cb i : Nat) (T : List (Bl × Nat)) (en ck : Nat) (f : Nat → Option Value) (hd : ∀ x ∈ l, x.d.data.size ≤ 3000) (_ : l.length ≤ 40) (_ : bw.length ≤ 100) (_ : bw.length ≤ cb ∧ cb ≤ 9223372036854775807) (h1 : i < l.length) (t a0 : Int) (raw : Bool) (d : ByteArray) (hx : l[i] = ⟨t, a0, raw, d⟩) (r : Wt) (R : List Wt) (hck : checkD t (bs d) ≠ 0) : CW Try.prog 0 2 (2 + (Try.f7.ntmps - 2)) none (codeAt (loopAt Try.f7 0) [1, 0, 0]) (bkE l c bw cb i T en ck [] (r :: R) f) (fun x s1 => x = .exit 1 ∧ ∃ f, RcM Try.prog 0 2 (2 + (Try.f7.ntmps - 2)) none s1 (bkE l c bw cb i T en ck [] (r :: R) f)) := by
 have hpl : plainL (l.flatMap layA6.g) = true := zAa layA6.g layA6.plain _
 obtain ⟨dom, cell, row, hsh, hdl⟩ := factB hd i h1 hx
 have hdl : (bs d).length ≤ 3000 := hdl
 have hsh : shortB d = true := hsh
 refine zAo tbBk [0] 2 _ none mixed _ _ _ ?_
 refine And.intro (by kernel_rfl) ?_
 refine ifK (fun _ => ?_) (fun h2 => absurd (dom.symm.trans h2) (by decide))
 refine Exists.intro t (And.intro (cell 0 (by decide)) ?_)
 refine ifK (fun _ => ?_) (fun h2 => absurd (dom.symm.trans h2) (by decide))
 refine Exists.intro d (And.intro (cell 3 (by decide)) ?_)
 refine And.intro hsh ?_
 refine ifK (fun _ => ⟨rfl, rcq [2, 3, 4, 5, 6] ⟨⟨_, rfl, .sl _ _ _ _ _ rfl⟩, ⟨_, rfl, .sl _ _ _ _ _ rfl⟩, ⟨_, rfl, .bool _⟩, ⟨_, rfl, .ptr _ _ _ rfl⟩, ⟨_, rfl, zAb 8 rfl⟩, ⟨_, rfl, .sl _ _ _ _ _ rfl⟩, ⟨_, rfl, .sl _ _ _ _ _ rfl⟩, ⟨_, rfl, .sl _ _ _ _ _ rfl⟩, ⟨_, rfl, .int _ _⟩, trivial⟩ ⟨bpo (hpl), bpo (byV_plain bw), ⟨by decide, _, rfl, zAh _ _⟩, ⟨by decide, _, rfl, zAc 2 2 (by exact rfl) _⟩, bpo (zAe (r :: R)), bpo (zAf (r :: R)), bpo (zAd (r :: R)), trivial⟩ .nil⟩) (fun g => absurd (by simpa using g) hck)
theorem bkz_001 (l : List A6) (c : Nat) (bw : Bl) (cb i : Nat) (T : List (Bl × Nat)) (en ck : Nat) (f : Nat → Option Value) (hd : ∀ x ∈ l, x.d.data.size ≤ 3000) (_ : l.length ≤ 40) (_ : bw.length ≤ 100) (hcb : bw.length ≤ cb ∧ cb ≤ 9223372036854775807) (h1 : i < l.length) (t a0 : Int) (raw : Bool) (d : ByteArray) (hx : l[i] = ⟨t, a0, raw, d⟩) (r : Wt) (R : List Wt) (k : Nat) (hk : pickI a0 (IntKind.i64.wrap ((bw.length : Int) + 1)) = (k : Int)) (hkl : k ≤ bw.length) (hW : bw.take k = []) : CW Try.prog 0 2 (2 + (Try.f7.ntmps - 2)) none (codeAt (loopAt Try.f7 0) [1, 0, 1, 0]) (bkE l c bw cb i T en ck [] (r :: R) f) (stepK Try.prog 0 2 (2 + (Try.f7.ntmps - 2)) none (bkE l c bw cb i T en ck [] (r :: R))) := by
 have hpl : plainL (l.flatMap layA6.g) = true := zAa layA6.g layA6.plain _
 obtain ⟨dom, cell, row, hsh, hdl⟩ := factB hd i h1 hx
 have hdl : (bs d).length ≤ 3000 := hdl
 have hsh : shortB d = true := hsh
 have h1s : (Try.prog.types[5]).size = 1 := by kernel_rfl
 have hby : (Try.prog.types[5]).bytes = 1 := by kernel_rfl
 refine zAo tbBk [0, 1] 2 _ none mixed _ _ _ ?_
 refine ifK (fun _ => ?_) (fun h2 => absurd (dom.symm.trans h2) (by decide))
 refine Exists.intro a0 (And.intro (cell 1 (by decide)) ?_)
 refine ifK (fun g => absurd (Nat.eq_of_beq_eq_true g) (by unfold U; omega)) (fun _ => ?_)
 have hkt : (pickI a0 (IntKind.i64.wrap ((bw.length : Int) + 1))).toNat - Int.toNat 0 = k := by rw [hk]; simp
 refine And.intro (by rw [hk]; simp only [inLH, Bool.and_eq_true, decide_eq_true_eq]; exact ⟨⟨⟨by omega, by omega⟩, Nat.ble_eq_true_of_le hcb.1⟩, Nat.ble_eq_true_of_le (by simp; omega)⟩) ?_
 refine Exists.intro ([].map byV) (And.intro (by rw [hkt, ← hW]; exact zHg h1s rfl hkl) ?_)
 refine ifK (fun _ => ?_) (fun g => absurd (show k = 0 by have := congrArg List.length hW; rw [List.length_take, Nat.min_eq_left hkl] at this; exact this) (fun e => by rw [hkt, e] at g; cases g))
 exact rcq [2, 3, 4, 5, 6] ⟨⟨_, rfl, .sl _ _ _ _ _ rfl⟩, ⟨_, rfl, .sl _ _ _ _ _ rfl⟩, ⟨_, rfl, .bool _⟩, ⟨_, rfl, .ptr _ _ _ rfl⟩, ⟨_, rfl, zAb 8 rfl⟩, ⟨_, rfl, .sl _ _ _ _ _ rfl⟩, ⟨_, rfl, .sl _ _ _ _ _ rfl⟩, ⟨_, rfl, .sl _ _ _ _ _ rfl⟩, ⟨_, rfl, .int _ _⟩, trivial⟩ ⟨bpo (hpl), bpo (byV_plain bw), ⟨by decide, _, rfl, zAh _ _⟩, ⟨by decide, _, rfl, zAc 2 2 (by exact rfl) _⟩, bpo (zAe (r :: R)), bpo (zAf (r :: R)), bpo (zAd (r :: R)), trivial⟩ .nil
theorem bkz_101 (l : List A6) (c : Nat) (bw : Bl) (cb i : Nat) (T : List (Bl × Nat)) (en ck : Nat) (f : Nat → Option Value) (hd : ∀ x ∈ l, x.d.data.size ≤ 3000) (_ : l.length ≤ 40) (hbw : bw.length ≤ 100) (hcb : bw.length ≤ cb ∧ cb ≤ 9223372036854775807) (h1 : i < l.length) (t a0 : Int) (raw : Bool) (d : ByteArray) (hx : l[i] = ⟨t, a0, raw, d⟩) (r : Wt) (R : List Wt) (v : UInt8) (vs : Bl) (k : Nat) (hk : pickI a0 (IntKind.i64.wrap ((bw.length : Int) + 1)) = (k : Int)) (hkl : k ≤ bw.length) (hW : bw.take k = (v :: vs)) : CW Try.prog 0 2 (2 + (Try.f7.ntmps - 2)) none (codeAt (loopAt Try.f7 0) [1, 0, 1, 0]) (bkE l c bw cb i T en ck [] (r :: R) f) (stepK Try.prog 0 2 (2 + (Try.f7.ntmps - 2)) none (bkE l c bw cb i T en ck (v :: vs) (r :: R))) := by
 have hpl : plainL (l.flatMap layA6.g) = true := zAa layA6.g layA6.plain _
 obtain ⟨dom, cell, row, hsh, hdl⟩ := factB hd i h1 hx
 have hdl : (bs d).length ≤ 3000 := hdl
 have hsh : shortB d = true := hsh
 have h1s : (Try.prog.types[5]).size = 1 := by kernel_rfl
 have hby : (Try.prog.types[5]).bytes = 1 := by kernel_rfl
 refine zAo tbBk [0, 1] 2 _ none mixed _ _ _ ?_
 refine ifK (fun _ => ?_) (fun h2 => absurd (dom.symm.trans h2) (by decide))
 refine Exists.intro a0 (And.intro (cell 1 (by decide)) ?_)
 refine ifK (fun g => absurd (Nat.eq_of_beq_eq_true g) (by unfold U; omega)) (fun _ => ?_)
 have hkt : (pickI a0 (IntKind.i64.wrap ((bw.length : Int) + 1))).toNat - Int.toNat 0 = k := by rw [hk]; simp
 refine And.intro (by rw [hk]; simp only [inLH, Bool.and_eq_true, decide_eq_true_eq]; exact ⟨⟨⟨by omega, by omega⟩, Nat.ble_eq_true_of_le hcb.1⟩, Nat.ble_eq_true_of_le (by simp; omega)⟩) ?_
 refine Exists.intro ((v :: vs).map byV) (And.intro (by rw [hkt, ← hW]; exact zHg h1s rfl hkl) ?_)
 refine ifK (fun g => absurd (show k = 0 by rw [hkt] at g; exact Nat.eq_of_beq_eq_true g) (fun e => by rw [e] at hW; cases hW)) (fun _ => ?_)
 have hkv : k = vs.length + 1 := by have := congrArg List.length hW; rw [List.length_take, Nat.min_eq_left hkl] at this; exact this
 have hone : oneL ((v :: vs).map byV) = true := oneB _
 refine And.intro (by rw [hby, hkt]; simp only [Bool.and_eq_true]; exact ⟨decide_eq_true (by omega), decide_eq_true (by omega)⟩) ?_
 have hlen : (pickI a0 (IntKind.i64.wrap ((bw.length : Int) + 1))).toNat - Int.toNat 0 = vs.length + 1 := by rw [hkt, hkv]
 have hcells : (v :: vs).map byV = (v :: vs).map byV := rfl
 exact rcq [2, 3, 7, 4, 5, 6] ⟨⟨_, rfl, .sl _ _ _ _ _ rfl⟩, ⟨_, rfl, .sl _ _ _ _ _ rfl⟩, ⟨_, rfl, .bool _⟩, ⟨_, rfl, .ptr _ _ _ rfl⟩, ⟨_, rfl, by show RV _ (.slice _ ((pickI a0 (IntKind.i64.wrap ((bw.length : Int) + 1))).toNat - Int.toNat 0) U) _; rw [hlen]; exact .sl _ _ _ _ _ rfl⟩, ⟨_, rfl, .sl _ _ _ _ _ rfl⟩, ⟨_, rfl, .sl _ _ _ _ _ rfl⟩, ⟨_, rfl, .sl _ _ _ _ _ rfl⟩, ⟨_, rfl, .int _ _⟩, trivial⟩ ⟨bpo (hpl), bpo (byV_plain bw), ⟨by decide, _, rfl, zAh _ _⟩, ⟨by decide, _, rfl, zAc 2 2 (by exact rfl) _⟩, ⟨by decide, _, rfl, zAw hcells (byV_plain _)⟩, bpo (zAe (r :: R)), bpo (zAf (r :: R)), bpo (zAd (r :: R)), trivial⟩ .nil
theorem bkx_11 (l : List A6) (c : Nat) (bw : Bl) (cb i : Nat) (T : List (Bl × Nat)) (en ck : Nat) (f : Nat → Option Value) (hd : ∀ x ∈ l, x.d.data.size ≤ 3000) (_ : l.length ≤ 40) (_ : bw.length ≤ 100) (_ : bw.length ≤ cb ∧ cb ≤ 9223372036854775807) (h1 : i < l.length) (t a0 : Int) (raw : Bool) (d : ByteArray) (hx : l[i] = ⟨t, a0, raw, d⟩) (u : UInt8) (us : Bl) (r : Wt) (R : List Wt) : CW Try.prog 0 2 (2 + (Try.f7.ntmps - 2)) none (codeAt (loopAt Try.f7 0) [0]) (bkE l c bw cb i T en ck (u :: us) (r :: R) f) (stepK Try.prog 0 2 (2 + (Try.f7.ntmps - 2)) none (bkE l c bw cb i T en ck (u :: us) (r :: R))) := by
 have hpl : plainL (l.flatMap layA6.g) = true := zAa layA6.g layA6.plain _
 obtain ⟨dom, cell, row, hsh, hdl⟩ := factB hd i h1 hx
 have hdl : (bs d).length ≤ 3000 := hdl
 have hsh : shortB d = true := hsh
 refine zAo tbBk [0] 2 _ none mixed _ _ _ ?_
 refine ifK (fun _ => ?_) (fun g => absurd (show ((i : Nat) : Int) < (l.length : Int) by omega) (of_decide_eq_false g))
 exact rcq [2, 3, 4, 5, 6, 7] ⟨⟨_, rfl, .sl _ _ _ _ _ rfl⟩, ⟨_, rfl, .sl _ _ _ _ _ rfl⟩, ⟨_, rfl, .bool _⟩, ⟨_, rfl, .ptr _ _ _ rfl⟩, ⟨_, rfl, .sl _ _ _ _ _ rfl⟩, ⟨_, rfl, .sl _ _ _ _ _ rfl⟩, ⟨_, rfl, .sl _ _ _ _ _ rfl⟩, ⟨_, rfl, .sl _ _ _ _ _ rfl⟩, ⟨_, rfl, .int _ _⟩, trivial⟩ ⟨bpo (hpl), bpo (byV_plain bw), ⟨by decide, _, rfl, zAh _ _⟩, ⟨by decide, _, rfl, zAc 2 2 (by exact rfl) _⟩, bpo (byV_plain (u :: us)), bpo (zAe (r :: R)), bpo (zAf (r :: R)), bpo (zAd (r :: R)), trivial⟩ .nil
theorem bky_111 (l : List A6) (c : Nat) (bw : Bl) (cb i : Nat) (T : List (Bl × Nat)) (en ck : Nat) (f : Nat → Option Value) (hd : ∀ x ∈ l, x.d.data.size ≤ 3000) (_ : l.length ≤ 40) (_ : bw.length ≤ 100) (_ : bw.length ≤ cb ∧ cb ≤ 9223372036854775807) (h1 : i < l.length) (t a0 : Int) (raw : Bool) (d : ByteArray) (hx : l[i] = ⟨t, a0, raw, d⟩) (u : UInt8) (us : Bl) (r : Wt) (R : List Wt) (hck : checkD t (bs d) = 0) (hbl : us.length + 1 ≤ 60000) : CW Try.prog 0 2 (2 + (Try.f7.ntmps - 2)) none (codeAt (loopAt Try.f7 0) [1, 0, 0]) (bkE l c bw cb i T en ck (u :: us) (r :: R) f) (stepK Try.prog 0 2 (2 + (Try.f7.ntmps - 2)) none (bkE l c bw cb i T en ck (u :: us) (r :: R))) := by
 have hpl : plainL (l.flatMap layA6.g) = true := zAa layA6.g layA6.plain _
 obtain ⟨dom, cell, row, hsh, hdl⟩ := factB hd i h1 hx
 have hdl : (bs d).length ≤ 3000 := hdl
 have hsh : shortB d = true := hsh
 refine zAo tbBk [0] 2 _ none mixed _ _ _ ?_
 refine And.intro (by kernel_rfl) ?_
 refine ifK (fun _ => ?_) (fun h2 => absurd (dom.symm.trans h2) (by decide))
 refine Exists.intro t (And.intro (cell 0 (by decide)) ?_)
 refine ifK (fun _ => ?_) (fun h2 => absurd (dom.symm.trans h2) (by decide))
 refine Exists.intro d (And.intro (cell 3 (by decide)) ?_)
 refine And.intro hsh ?_
 refine ifK (fun g => absurd hck (by simpa using g)) (fun _ => ?_)
 refine ifK (fun g => absurd (of_decide_eq_true g) (by omega)) (fun _ => ?_)
 exact rcq [2, 3, 4, 5, 6, 7] ⟨⟨_, rfl, .sl _ _ _ _ _ rfl⟩, ⟨_, rfl, .sl _ _ _ _ _ rfl⟩, ⟨_, rfl, .bool _⟩, ⟨_, rfl, .ptr _ _ _ rfl⟩, ⟨_, rfl, .sl _ _ _ _ _ rfl⟩, ⟨_, rfl, .sl _ _ _ _ _ rfl⟩, ⟨_, rfl, .sl _ _ _ _ _ rfl⟩, ⟨_, rfl, .sl _ _ _ _ _ rfl⟩, ⟨_, rfl, .int _ _⟩, trivial⟩ ⟨bpo (hpl), bpo (byV_plain bw), ⟨by decide, _, rfl, zAh _ _⟩, ⟨by decide, _, rfl, zAc 2 2 (by exact rfl) _⟩, bpo (byV_plain (u :: us)), bpo (zAe (r :: R)), bpo (zAf (r :: R)), bpo (zAd (r :: R)), trivial⟩ .nil
theorem bky_011 (l : List A6) (c : Nat) (bw : Bl) (cb i : Nat) (T : List (Bl × Nat)) (en ck : Nat) (f : Nat → Option Value) (hd : ∀ x ∈ l, x.d.data.size ≤ 3000) (_ : l.length ≤ 40) (_ : bw.length ≤ 100) (_ : bw.length ≤ cb ∧ cb ≤ 9223372036854775807) (h1 : i < l.length) (t a0 : Int) (raw : Bool) (d : ByteArray) (hx : l[i] = ⟨t, a0, raw, d⟩) (u : UInt8) (us : Bl) (r : Wt) (R : List Wt) (hno : checkD t (bs d) ≠ 0 ∨ 60000 < us.length + 1) : CW Try.prog 0 2 (2 + (Try.f7.ntmps - 2)) none (codeAt (loopAt Try.f7 0) [1, 0, 0]) (bkE l c bw cb i T en ck (u :: us) (r :: R) f) (fun x s1 => x = .exit 1 ∧ ∃ f, RcM Try.prog 0 2 (2 + (Try.f7.ntmps - 2)) none s1 (bkE l c bw cb i T en ck (u :: us) (r :: R) f)) := by
 have hpl : plainL (l.flatMap layA6.g) = true := zAa layA6.g layA6.plain _
 obtain ⟨dom, cell, row, hsh, hdl⟩ := factB hd i h1 hx
 have hdl : (bs d).length ≤ 3000 := hdl
 have hsh : shortB d = true := hsh
 refine zAo tbBk [0] 2 _ none mixed _ _ _ ?_
 refine And.intro (by kernel_rfl) ?_
 refine ifK (fun _ => ?_) (fun h2 => absurd (dom.symm.trans h2) (by decide))
 refine Exists.intro t (And.intro (cell 0 (by decide)) ?_)
 refine ifK (fun _ => ?_) (fun h2 => absurd (dom.symm.trans h2) (by decide))
 refine Exists.intro d (And.intro (cell 3 (by decide)) ?_)
 refine And.intro hsh ?_
 refine ifK (fun _ => ⟨rfl, rcq [2, 3, 4, 5, 6, 7] ⟨⟨_, rfl, .sl _ _ _ _ _ rfl⟩, ⟨_, rfl, .sl _ _ _ _ _ rfl⟩, ⟨_, rfl, .bool _⟩, ⟨_, rfl, .ptr _ _ _ rfl⟩, ⟨_, rfl, .sl _ _ _ _ _ rfl⟩, ⟨_, rfl, .sl _ _ _ _ _ rfl⟩, ⟨_, rfl, .sl _ _ _ _ _ rfl⟩, ⟨_, rfl, .sl _ _ _ _ _ rfl⟩, ⟨_, rfl, .int _ _⟩, trivial⟩ ⟨bpo (hpl), bpo (byV_plain bw), ⟨by decide, _, rfl, zAh _ _⟩, ⟨by decide, _, rfl, zAc 2 2 (by exact rfl) _⟩, bpo (byV_plain (u :: us)), bpo (zAe (r :: R)), bpo (zAf (r :: R)), bpo (zAd (r :: R)), trivial⟩ .nil⟩) (fun g => ?_)
 refine ifK (fun _ => ⟨rfl, rcq [2, 3, 4, 5, 6, 7] ⟨⟨_, rfl, .sl _ _ _ _ _ rfl⟩, ⟨_, rfl, .sl _ _ _ _ _ rfl⟩, ⟨_, rfl, .bool _⟩, ⟨_, rfl, .ptr _ _ _ rfl⟩, ⟨_, rfl, .sl _ _ _ _ _ rfl⟩, ⟨_, rfl, .sl _ _ _ _ _ rfl⟩, ⟨_, rfl, .sl _ _ _ _ _ rfl⟩, ⟨_, rfl, .sl _ _ _ _ _ rfl⟩, ⟨_, rfl, .int _ _⟩, trivial⟩ ⟨bpo (hpl), bpo (byV_plain bw), ⟨by decide, _, rfl, zAh _ _⟩, ⟨by decide, _, rfl, zAc 2 2 (by exact rfl) _⟩, bpo (byV_plain (u :: us)), bpo (zAe (r :: R)), bpo (zAf (r :: R)), bpo (zAd (r :: R)), trivial⟩ .nil⟩) (fun g2 => ?_)
 exact absurd hno (by have := of_decide_eq_false g2; simp at g; omega)
theorem bkz_011 (l : List A6) (c : Nat) (bw : Bl) (cb i : Nat) (T : List (Bl × Nat)) (en ck : Nat) (f : Nat → Option Value) (hd : ∀ x ∈ l, x.d.data.size ≤ 3000) (_ : l.length ≤ 40) (_ : bw.length ≤ 100) (hcb : bw.length ≤ cb ∧ cb ≤ 9223372036854775807) (h1 : i < l.length) (t a0 : Int) (raw : Bool) (d : ByteArray) (hx : l[i] = ⟨t, a0, raw, d⟩) (u : UInt8) (us : Bl) (r : Wt) (R : List Wt) (_ : us.length + 1 ≤ 60000) (k : Nat) (hk : pickI a0 (IntKind.i64.wrap ((bw.length : Int) + 1)) = (k : Int)) (hkl : k ≤ bw.length) (hW : bw.take k = []) : CW Try.prog 0 2 (2 + (Try.f7.ntmps - 2)) none (codeAt (loopAt Try.f7 0) [1, 0, 1, 0]) (bkE l c bw cb i T en ck (u :: us) (r :: R) f) (stepK Try.prog 0 2 (2 + (Try.f7.ntmps - 2)) none (bkE l c bw cb i T en ck (u :: us) (r :: R))) := by
 have hpl : plainL (l.flatMap layA6.g) = true := zAa layA6.g layA6.plain _
 obtain ⟨dom, cell, row, hsh, hdl⟩ := factB hd i h1 hx
 have hdl : (bs d).length ≤ 3000 := hdl
 have hsh : shortB d = true := hsh
 have h1s : (Try.prog.types[5]).size = 1 := by kernel_rfl
 have hby : (Try.prog.types[5]).bytes = 1 := by kernel_rfl
 refine zAo tbBk [0, 1] 2 _ none mixed _ _ _ ?_
 refine ifK (fun _ => ?_) (fun h2 => absurd (dom.symm.trans h2) (by decide))
 refine Exists.intro a0 (And.intro (cell 1 (by decide)) ?_)
 refine ifK (fun g => absurd (Nat.eq_of_beq_eq_true g) (by unfold U; omega)) (fun _ => ?_)
 have hkt : (pickI a0 (IntKind.i64.wrap ((bw.length : Int) + 1))).toNat - Int.toNat 0 = k := by rw [hk]; simp
 refine And.intro (by rw [hk]; simp only [inLH, Bool.and_eq_true, decide_eq_true_eq]; exact ⟨⟨⟨by omega, by omega⟩, Nat.ble_eq_true_of_le hcb.1⟩, Nat.ble_eq_true_of_le (by simp; omega)⟩) ?_
 refine Exists.intro ([].map byV) (And.intro (by rw [hkt, ← hW]; exact zHg h1s rfl hkl) ?_)
 refine ifK (fun _ => ?_) (fun g => absurd (show k = 0 by have := congrArg List.length hW; rw [List.length_take, Nat.min_eq_left hkl] at this; exact this) (fun e => by rw [hkt, e] at g; cases g))
 exact rcq [2, 3, 4, 5, 6, 7] ⟨⟨_, rfl, .sl _ _ _ _ _ rfl⟩, ⟨_, rfl, .sl _ _ _ _ _ rfl⟩, ⟨_, rfl, .bool _⟩, ⟨_, rfl, .ptr _ _ _ rfl⟩, ⟨_, rfl, .sl _ _ _ _ _ rfl⟩, ⟨_, rfl, .sl _ _ _ _ _ rfl⟩, ⟨_, rfl, .sl _ _ _ _ _ rfl⟩, ⟨_, rfl, .sl _ _ _ _ _ rfl⟩, ⟨_, rfl, .int _ _⟩, trivial⟩ ⟨bpo (hpl), bpo (byV_plain bw), ⟨by decide, _, rfl, zAh _ _⟩, ⟨by decide, _, rfl, zAc 2 2 (by exact rfl) _⟩, bpo (byV_plain (u :: us)), bpo (zAe (r :: R)), bpo (zAf (r :: R)), bpo (zAd (r :: R)), trivial⟩ .nil
theorem bkz_111 (l : List A6) (c : Nat) (bw : Bl) (cb i : Nat) (T : List (Bl × Nat)) (en ck : Nat) (f : Nat → Option Value) (hd : ∀ x ∈ l, x.d.data.size ≤ 3000) (_ : l.length ≤ 40) (hbw : bw.length ≤ 100) (hcb : bw.length ≤ cb ∧ cb ≤ 9223372036854775807) (h1 : i < l.length) (t a0 : Int) (raw : Bool) (d : ByteArray) (hx : l[i] = ⟨t, a0, raw, d⟩) (u : UInt8) (us : Bl) (r : Wt) (R : List Wt) (hbl : us.length + 1 ≤ 60000) (v : UInt8) (vs : Bl) (k : Nat) (hk : pickI a0 (IntKind.i64.wrap ((bw.length : Int) + 1)) = (k : Int)) (hkl : k ≤ bw.length) (hW : bw.take k = (v :: vs)) : CW Try.prog 0 2 (2 + (Try.f7.ntmps - 2)) none (codeAt (loopAt Try.f7 0) [1, 0, 1, 0]) (bkE l c bw cb i T en ck (u :: us) (r :: R) f) (stepK Try.prog 0 2 (2 + (Try.f7.ntmps - 2)) none (bkE l c bw cb i T en ck (u :: (us ++ v :: vs)) (r :: R))) := by
 have hpl : plainL (l.flatMap layA6.g) = true := zAa layA6.g layA6.plain _
 obtain ⟨dom, cell, row, hsh, hdl⟩ := factB hd i h1 hx
 have hdl : (bs d).length ≤ 3000 := hdl
 have hsh : shortB d = true := hsh
 have h1s : (Try.prog.types[5]).size = 1 := by kernel_rfl
 have hby : (Try.prog.types[5]).bytes = 1 := by kernel_rfl
 refine zAo tbBk [0, 1] 2 _ none mixed _ _ _ ?_
 refine ifK (fun _ => ?_) (fun h2 => absurd (dom.symm.trans h2) (by decide))
 refine Exists.intro a0 (And.intro (cell 1 (by decide)) ?_)
 refine ifK (fun g => absurd (Nat.eq_of_beq_eq_true g) (by unfold U; omega)) (fun _ => ?_)
 have hkt : (pickI a0 (IntKind.i64.wrap ((bw.length : Int) + 1))).toNat - Int.toNat 0 = k := by rw [hk]; simp
 refine And.intro (by rw [hk]; simp only [inLH, Bool.and_eq_true, decide_eq_true_eq]; exact ⟨⟨⟨by omega, by omega⟩, Nat.ble_eq_true_of_le hcb.1⟩, Nat.ble_eq_true_of_le (by simp; omega)⟩) ?_
 refine Exists.intro ((v :: vs).map byV) (And.intro (by rw [hkt, ← hW]; exact zHg h1s rfl hkl) ?_)
 refine ifK (fun g => absurd (show k = 0 by rw [hkt] at g; exact Nat.eq_of_beq_eq_true g) (fun e => by rw [e] at hW; cases hW)) (fun _ => ?_)
 have hkv : k = vs.length + 1 := by have := congrArg List.length hW; rw [List.length_take, Nat.min_eq_left hkl] at this; exact this
 have hone : oneL ((v :: vs).map byV) = true := oneB _
 refine And.intro (by rw [h1s, hby, hkt]; simp only [Bool.and_eq_true, decide_eq_true_eq]; exact ⟨⟨⟨⟨⟨⟨rfl, rfl⟩, Nat.ble_eq_true_of_le (by simp)⟩, hone⟩, (by omega)⟩, (by omega)⟩, Nat.ble_eq_true_of_le (by simp)⟩) ?_
 have hlen : us.length + 1 + ((pickI a0 (IntKind.i64.wrap ((bw.length : Int) + 1))).toNat - Int.toNat 0) = (us ++ v :: vs).length + 1 := by rw [hkt, hkv]; simp; omega
 have hcells : List.take ((us.length + 1) * (Try.prog.types[5]).size) ((u :: us).map byV) ++ (v :: vs).map byV = (u :: (us ++ v :: vs)).map byV := by rw [h1s, Nat.mul_one, List.take_of_length_le (by simp)]; simp
 exact rcq [2, 3, 8, 5, 6, 7] ⟨⟨_, rfl, .sl _ _ _ _ _ rfl⟩, ⟨_, rfl, .sl _ _ _ _ _ rfl⟩, ⟨_, rfl, .bool _⟩, ⟨_, rfl, .ptr _ _ _ rfl⟩, ⟨_, rfl, by show RV _ (.slice _ (us.length + 1 + ((pickI a0 (IntKind.i64.wrap ((bw.length : Int) + 1))).toNat - Int.toNat 0)) U) _; rw [hlen]; exact .sl _ _ _ _ _ rfl⟩, ⟨_, rfl, .sl _ _ _ _ _ rfl⟩, ⟨_, rfl, .sl _ _ _ _ _ rfl⟩, ⟨_, rfl, .sl _ _ _ _ _ rfl⟩, ⟨_, rfl, .int _ _⟩, trivial⟩ ⟨bpo (hpl), bpo (byV_plain bw), ⟨by decide, _, rfl, zAh _ _⟩, ⟨by decide, _, rfl, zAc 2 2 (by exact rfl) _⟩, ⟨by decide, _, rfl, zAw hcells (byV_plain _)⟩, bpo (zAe (r :: R)), bpo (zAf (r :: R)), bpo (zAd (r :: R)), trivial⟩ .nil
end Go.Proofs.Ytjdecbfjpkpepaa
namespace Go.Proofs.Ytjdecbfjpkpepaa
open Go Go.RowKit
theorem bkw_000 (l : List A6) (c : Nat) (bw : Bl) (cb i : Nat) (T : List (Bl × Nat)) (en ck : Nat) (f : Nat → Option Value) (hd : ∀ x ∈ l, x.d.data.size ≤ 3000) (_ : l.length ≤ 40) (_ : bw.length ≤ 100) (_ : bw.length ≤ cb ∧ cb ≤ 9223372036854775807) (h1 : i < l.length) (t a0 : Int) (raw : Bool) (d : ByteArray) (hx : l[i] = ⟨t, a0, raw, d⟩) (F : List (Bl × Nat)) (en' : Nat) (hg : goodT T) (hD : wrD en T 0 t (bs d) = (0, [], F, en')) : CW Try.prog 0 2 (2 + (Try.f7.ntmps - 2)) none (codeAt (loopAt Try.f7 0) [1, 0, 1, 1, 0]) (bkE l c bw cb i T en ck [] [] f) (stepK Try.prog 0 2 (2 + (Try.f7.ntmps - 2)) none (bkF l c bw cb i (T ++ F) en' (ck + F.length) [] [] [])) := by
 have hpl : plainL (l.flatMap layA6.g) = true := zAa layA6.g layA6.plain _
 obtain ⟨dom, cell, row, hsh, hdl⟩ := factB hd i h1 hx
 have hdl : (bs d).length ≤ 3000 := hdl
 have hsh : shortB d = true := hsh
 refine zAo tbBk [0] 2 _ none mixed _ _ _ ?_
 refine And.intro (by kernel_rfl) ?_
 refine ifK (fun _ => ?_) (fun h2 => absurd (dom.symm.trans h2) (by decide))
 refine Exists.intro t (And.intro (cell 0 (by decide)) ?_)
 refine ifK (fun _ => ?_) (fun h2 => absurd (dom.symm.trans h2) (by decide))
 refine Exists.intro d (And.intro (cell 3 (by decide)) ?_)
 refine Exists.intro (⟨3, 2, en, T, ck, 0, t, d, 0, [], F, en'⟩ : WrX) (And.intro ⟨rfl, (show Tr.get _ 3 = some (AObj.cells [.map (some 2), .int .i64 (en : Int)] _) from rfl), (show Tr.get _ 2 = some (AObj.map (encT T) ck) from rfl), hg, hsh, hD⟩ ?_)
 exact rcq [2, 3] ⟨⟨_, rfl, .sl _ _ _ _ _ rfl⟩, ⟨_, rfl, .sl _ _ _ _ _ rfl⟩, ⟨_, rfl, .bool _⟩, ⟨_, rfl, .ptr _ _ _ rfl⟩, ⟨_, rfl, zAb 8 rfl⟩, ⟨_, rfl, zAb 8 rfl⟩, ⟨_, rfl, zAb 8 rfl⟩, ⟨_, rfl, zAb 8 rfl⟩, ⟨_, rfl, .int _ _⟩, ⟨_, rfl, zAb 8 rfl⟩, ⟨_, rfl, .int _ _⟩, trivial⟩ ⟨bpo (hpl), bpo (byV_plain bw), ⟨by decide, _, rfl, zAh _ _⟩, ⟨by decide, _, rfl, zAc 2 2 (by exact rfl) _⟩, trivial⟩ .nil
theorem bku_000 (l : List A6) (c : Nat) (bw : Bl) (cb i : Nat) (T : List (Bl × Nat)) (en ck : Nat) (f : Nat → Option Value) (hd : ∀ x ∈ l, x.d.data.size ≤ 3000) (_ : l.length ≤ 40) (_ : bw.length ≤ 100) (_ : bw.length ≤ cb ∧ cb ≤ 9223372036854775807) (h1 : i < l.length) (t a0 : Int) (raw : Bool) (d : ByteArray) (hx : l[i] = ⟨t, a0, raw, d⟩) : CW Try.prog 0 2 (2 + (Try.f7.ntmps - 2)) none (codeAt (loopAt Try.f7 0) [1, 0, 1, 1, 1, 0]) (bkF l c bw cb i T en ck [] [] [] f) (stepK Try.prog 0 2 (2 + (Try.f7.ntmps - 2)) none (bkF l c bw cb i T en ck [] [] [])) := by
 have hpl : plainL (l.flatMap layA6.g) = true := zAa layA6.g layA6.plain _
 obtain ⟨dom, cell, row, hsh, hdl⟩ := factB hd i h1 hx
 have hdl : (bs d).length ≤ 3000 := hdl
 have hsh : shortB d = true := hsh
 have hds := zAg d
 refine zAo tbBk [0] 2 _ none mixed _ _ _ ?_
 refine ifK (fun _ => ?_) (fun h2 => absurd (dom.symm.trans h2) (by decide))
 refine Exists.intro d (And.intro (cell 3 (by decide)) ?_)
 exact rcq [2, 3] ⟨⟨_, rfl, .sl _ _ _ _ _ rfl⟩, ⟨_, rfl, .sl _ _ _ _ _ rfl⟩, ⟨_, rfl, .bool _⟩, ⟨_, rfl, .ptr _ _ _ rfl⟩, ⟨_, rfl, zAb 8 rfl⟩, ⟨_, rfl, zAb 8 rfl⟩, ⟨_, rfl, zAb 8 rfl⟩, ⟨_, rfl, zAb 8 rfl⟩, ⟨_, rfl, .int _ _⟩, ⟨_, rfl, zAb 8 rfl⟩, ⟨_, rfl, .int _ _⟩, trivial⟩ ⟨bpo (hpl), bpo (byV_plain bw), ⟨by decide, _, rfl, zAh _ _⟩, ⟨by decide, _, rfl, zAc 2 2 (by exact rfl) _⟩, trivial⟩ .nil
theorem bkw_001 (l : List A6) (c : Nat) (bw : Bl) (cb i : Nat) (T : List (Bl × Nat)) (en ck : Nat) (f : Nat → Option Value) (hd : ∀ x ∈ l, x.d.data.size ≤ 3000) (_ : l.length ≤ 40) (_ : bw.length ≤ 100) (_ : bw.length ≤ cb ∧ cb ≤ 9223372036854775807) (h1 : i < l.length) (t a0 : Int) (raw : Bool) (d : ByteArray) (hx : l[i] = ⟨t, a0, raw, d⟩) (x : UInt8) (xs : Bl) (F : List (Bl × Nat)) (en' : Nat) (hg : goodT T) (hD : wrD en T 0 t (bs d) = (0, (x :: xs), F, en')) : CW Try.prog 0 2 (2 + (Try.f7.ntmps - 2)) none (codeAt (loopAt Try.f7 0) [1, 0, 1, 1, 0]) (bkE l c bw cb i T en ck [] [] f) (stepK Try.prog 0 2 (2 + (Try.f7.ntmps - 2)) none (bkF l c bw cb i (T ++ F) en' (ck + F.length) [] [] (x :: xs))) := by
 have hpl : plainL (l.flatMap layA6.g) = true := zAa layA6.g layA6.plain _
 obtain ⟨dom, cell, row, hsh, hdl⟩ := factB hd i h1 hx
 have hdl : (bs d).length ≤ 3000 := hdl
 have hsh : shortB d = true := hsh
 refine zAo tbBk [0] 2 _ none mixed _ _ _ ?_
 refine And.intro (by kernel_rfl) ?_
 refine ifK (fun _ => ?_) (fun h2 => absurd (dom.symm.trans h2) (by decide))
 refine Exists.intro t (And.intro (cell 0 (by decide)) ?_)
 refine ifK (fun _ => ?_) (fun h2 => absurd (dom.symm.trans h2) (by decide))
 refine Exists.intro d (And.intro (cell 3 (by decide)) ?_)
 refine Exists.intro (⟨3, 2, en, T, ck, 0, t, d, 0, (x :: xs), F, en'⟩ : WrX) (And.intro ⟨rfl, (show Tr.get _ 3 = some (AObj.cells [.map (some 2), .int .i64 (en : Int)] _) from rfl), (show Tr.get _ 2 = some (AObj.map (encT T) ck) from rfl), hg, hsh, hD⟩ ?_)
 exact rcq [2, 3, 4] ⟨⟨_, rfl, .sl _ _ _ _ _ rfl⟩, ⟨_, rfl, .sl _ _ _ _ _ rfl⟩, ⟨_, rfl, .bool _⟩, ⟨_, rfl, .ptr _ _ _ rfl⟩, ⟨_, rfl, zAb 8 rfl⟩, ⟨_, rfl, zAb 8 rfl⟩, ⟨_, rfl, zAb 8 rfl⟩, ⟨_, rfl, zAb 8 rfl⟩, ⟨_, rfl, .int _ _⟩, ⟨_, rfl, .sl _ _ _ _ _ rfl⟩, ⟨_, rfl, .int _ _⟩, trivial⟩ ⟨bpo (hpl), bpo (byV_plain bw), ⟨by decide, _, rfl, zAh _ _⟩, ⟨by decide, _, rfl, zAc 2 2 (by exact rfl) _⟩, bpo (byV_plain (x :: xs)), trivial⟩ .nil
theorem bku_001 (l : List A6) (c : Nat) (bw : Bl) (cb i : Nat) (T : List (Bl × Nat)) (en ck : Nat) (f : Nat → Option Value) (hd : ∀ x ∈ l, x.d.data.size ≤ 3000) (_ : l.length ≤ 40) (_ : bw.length ≤ 100) (_ : bw.length ≤ cb ∧ cb ≤ 9223372036854775807) (h1 : i < l.length) (t a0 : Int) (raw : Bool) (d : ByteArray) (hx : l[i] = ⟨t, a0, raw, d⟩) (x : UInt8) (xs : Bl) (hxl : xs.length + 1 ≤ (bs d).length) : CW Try.prog 0 2 (2 + (Try.f7.ntmps - 2)) none (codeAt (loopAt Try.f7 0) [1, 0, 1, 1, 1, 0]) (bkF l c bw cb i T en ck [] [] (x :: xs) f) (stepK Try.prog 0 2 (2 + (Try.f7.ntmps - 2)) none (bkF l c bw cb i T en ck [] [] (x :: xs))) := by
 have hpl : plainL (l.flatMap layA6.g) = true := zAa layA6.g layA6.plain _
 obtain ⟨dom, cell, row, hsh, hdl⟩ := factB hd i h1 hx
 have hdl : (bs d).length ≤ 3000 := hdl
 have hsh : shortB d = true := hsh
 have hds := zAg d
 refine zAo tbBk [0] 2 _ none mixed _ _ _ ?_
 refine ifK (fun _ => ?_) (fun h2 => absurd (dom.symm.trans h2) (by decide))
 refine Exists.intro d (And.intro (cell 3 (by decide)) ?_)
 refine ifK (fun g => absurd (show ((xs.length + 1 : Nat) : Int) > ((bs d).length : Int) by rw [← hds]; exact of_decide_eq_true g) (by omega)) (fun _ => ?_)
 exact rcq [2, 3, 4] ⟨⟨_, rfl, .sl _ _ _ _ _ rfl⟩, ⟨_, rfl, .sl _ _ _ _ _ rfl⟩, ⟨_, rfl, .bool _⟩, ⟨_, rfl, .ptr _ _ _ rfl⟩, ⟨_, rfl, zAb 8 rfl⟩, ⟨_, rfl, zAb 8 rfl⟩, ⟨_, rfl, zAb 8 rfl⟩, ⟨_, rfl, zAb 8 rfl⟩, ⟨_, rfl, .int _ _⟩, ⟨_, rfl, .sl _ _ _ _ _ rfl⟩, ⟨_, rfl, .int _ _⟩, trivial⟩ ⟨bpo (hpl), bpo (byV_plain bw), ⟨by decide, _, rfl, zAh _ _⟩, ⟨by decide, _, rfl, zAc 2 2 (by exact rfl) _⟩, bpo (byV_plain (x :: xs)), trivial⟩ .nil
theorem bkw_010 (l : List A6) (c : Nat) (bw : Bl) (cb i : Nat) (T : List (Bl × Nat)) (en ck : Nat) (f : Nat → Option Value) (hd : ∀ x ∈ l, x.d.data.size ≤ 3000) (_ : l.length ≤ 40) (_ : bw.length ≤ 100) (_ : bw.length ≤ cb ∧ cb ≤ 9223372036854775807) (h1 : i < l.length) (t a0 : Int) (raw : Bool) (d : ByteArray) (hx : l[i] = ⟨t, a0, raw, d⟩) (r : Wt) (R : List Wt) (F : List (Bl × Nat)) (en' : Nat) (hg : goodT T) (hD : wrD en T 0 t (bs d) = (0, [], F, en')) : CW Try.prog 0 2 (2 + (Try.f7.ntmps - 2)) none (codeAt (loopAt Try.f7 0) [1, 0, 1, 1, 0]) (bkE l c bw cb i T en ck [] (r :: R) f) (stepK Try.prog 0 2 (2 + (Try.f7.ntmps - 2)) none (bkF l c bw cb i (T ++ F) en' (ck + F.length) [] (r :: R) [])) := by
 have hpl : plainL (l.flatMap layA6.g) = true := zAa layA6.g layA6.plain _
 obtain ⟨dom, cell, row, hsh, hdl⟩ := factB hd i h1 hx
 have hdl : (bs d).length ≤ 3000 := hdl
 have hsh : shortB d = true := hsh
 refine zAo tbBk [0] 2 _ none mixed _ _ _ ?_
 refine And.intro (by kernel_rfl) ?_
 refine ifK (fun _ => ?_) (fun h2 => absurd (dom.symm.trans h2) (by decide))
 refine Exists.intro t (And.intro (cell 0 (by decide)) ?_)
 refine ifK (fun _ => ?_) (fun h2 => absurd (dom.symm.trans h2) (by decide))
 refine Exists.intro d (And.intro (cell 3 (by decide)) ?_)
 refine Exists.intro (⟨3, 2, en, T, ck, 0, t, d, 0, [], F, en'⟩ : WrX) (And.intro ⟨rfl, (show Tr.get _ 3 = some (AObj.cells [.map (some 2), .int .i64 (en : Int)] _) from rfl), (show Tr.get _ 2 = some (AObj.map (encT T) ck) from rfl), hg, hsh, hD⟩ ?_)
 exact rcq [2, 3, 4, 5, 6] ⟨⟨_, rfl, .sl _ _ _ _ _ rfl⟩, ⟨_, rfl, .sl _ _ _ _ _ rfl⟩, ⟨_, rfl, .bool _⟩, ⟨_, rfl, .ptr _ _ _ rfl⟩, ⟨_, rfl, zAb 8 rfl⟩, ⟨_, rfl, .sl _ _ _ _ _ rfl⟩, ⟨_, rfl, .sl _ _ _ _ _ rfl⟩, ⟨_, rfl, .sl _ _ _ _ _ rfl⟩, ⟨_, rfl, .int _ _⟩, ⟨_, rfl, zAb 8 rfl⟩, ⟨_, rfl, .int _ _⟩, trivial⟩ ⟨bpo (hpl), bpo (byV_plain bw), ⟨by decide, _, rfl, zAh _ _⟩, ⟨by decide, _, rfl, zAc 2 2 (by exact rfl) _⟩, bpo (zAe (r :: R)), bpo (zAf (r :: R)), bpo (zAd (r :: R)), trivial⟩ .nil
theorem bku_010 (l : List A6) (c : Nat) (bw : Bl) (cb i : Nat) (T : List (Bl × Nat)) (en ck : Nat) (f : Nat → Option Value) (hd : ∀ x ∈ l, x.d.data.size ≤ 3000) (_ : l.length ≤ 40) (_ : bw.length ≤ 100) (_ : bw.length ≤ cb ∧ cb ≤ 9223372036854775807) (h1 : i < l.length) (t a0 : Int) (raw : Bool) (d : ByteArray) (hx : l[i] = ⟨t, a0, raw, d⟩) (r : Wt) (R : List Wt) : CW Try.prog 0 2 (2 + (Try.f7.ntmps - 2)) none (codeAt (loopAt Try.f7 0) [1, 0, 1, 1, 1, 0]) (bkF l c bw cb i T en ck [] (r :: R) [] f) (stepK Try.prog 0 2 (2 + (Try.f7.ntmps - 2)) none (bkF l c bw cb i T en ck [] (r :: R) [])) := by
 have hpl : plainL (l.flatMap layA6.g) = true := zAa layA6.g layA6.plain _
 obtain ⟨dom, cell, row, hsh, hdl⟩ := factB hd i h1 hx
 have hdl : (bs d).length ≤ 3000 := hdl
 have hsh : shortB d = true := hsh
 have hds := zAg d
 refine zAo tbBk [0] 2 _ none mixed _ _ _ ?_
 refine ifK (fun _ => ?_) (fun h2 => absurd (dom.symm.trans h2) (by decide))
 refine Exists.intro d (And.intro (cell 3 (by decide)) ?_)
 exact rcq [2, 3, 4, 5, 6] ⟨⟨_, rfl, .sl _ _ _ _ _ rfl⟩, ⟨_, rfl, .sl _ _ _ _ _ rfl⟩, ⟨_, rfl, .bool _⟩, ⟨_, rfl, .ptr _ _ _ rfl⟩, ⟨_, rfl, zAb 8 rfl⟩, ⟨_, rfl, .sl _ _ _ _ _ rfl⟩, ⟨_, rfl, .sl _ _ _ _ _ rfl⟩, ⟨_, rfl, .sl _ _ _ _ _ rfl⟩, ⟨_, rfl, .int _ _⟩, ⟨_, rfl, zAb 8 rfl⟩, ⟨_, rfl, .int _ _⟩, trivial⟩ ⟨bpo (hpl), bpo (byV_plain bw), ⟨by decide, _, rfl, zAh _ _⟩, ⟨by decide, _, rfl, zAc 2 2 (by exact rfl) _⟩, bpo (zAe (r :: R)), bpo (zAf (r :: R)), bpo (zAd (r :: R)), trivial⟩ .nil
theorem bkw_011 (l : List A6) (c : Nat) (bw : Bl) (cb i : Nat) (T : List (Bl × Nat)) (en ck : Nat) (f : Nat → Option Value) (hd : ∀ x ∈ l, x.d.data.size ≤ 3000) (_ : l.length ≤ 40) (_ : bw.length ≤ 100) (_ : bw.length ≤ cb ∧ cb ≤ 9223372036854775807) (h1 : i < l.length) (t a0 : Int) (raw : Bool) (d : ByteArray) (hx : l[i] = ⟨t, a0, raw, d⟩) (r : Wt) (R : List Wt) (x : UInt8) (xs : Bl) (F : List (Bl × Nat)) (en' : Nat) (hg : goodT T) (hD : wrD en T 0 t (bs d) = (0, (x :: xs), F, en')) : CW Try.prog 0 2 (2 + (Try.f7.ntmps - 2)) none (codeAt (loopAt Try.f7 0) [1, 0, 1, 1, 0]) (bkE l c bw cb i T en ck [] (r :: R) f) (stepK Try.prog 0 2 (2 + (Try.f7.ntmps - 2)) none (bkF l c bw cb i (T ++ F) en' (ck + F.length) [] (r :: R) (x :: xs))) := by
 have hpl : plainL (l.flatMap layA6.g) = true := zAa layA6.g layA6.plain _
 obtain ⟨dom, cell, row, hsh, hdl⟩ := factB hd i h1 hx
 have hdl : (bs d).length ≤ 3000 := hdl
 have hsh : shortB d = true := hsh
 refine zAo tbBk [0] 2 _ none mixed _ _ _ ?_
 refine And.intro (by kernel_rfl) ?_
 refine ifK (fun _ => ?_) (fun h2 => absurd (dom.symm.trans h2) (by decide))
 refine Exists.intro t (And.intro (cell 0 (by decide)) ?_)
 refine ifK (fun _ => ?_) (fun h2 => absurd (dom.symm.trans h2) (by decide))
 refine Exists.intro d (And.intro (cell 3 (by decide)) ?_)
 refine Exists.intro (⟨3, 2, en, T, ck, 0, t, d, 0, (x :: xs), F, en'⟩ : WrX) (And.intro ⟨rfl, (show Tr.get _ 3 = some (AObj.cells [.map (some 2), .int .i64 (en : Int)] _) from rfl), (show Tr.get _ 2 = some (AObj.map (encT T) ck) from rfl), hg, hsh, hD⟩ ?_)
 exact rcq [2, 3, 4, 5, 6, 7] ⟨⟨_, rfl, .sl _ _ _ _ _ rfl⟩, ⟨_, rfl, .sl _ _ _ _ _ rfl⟩, ⟨_, rfl, .bool _⟩, ⟨_, rfl, .ptr _ _ _ rfl⟩, ⟨_, rfl, zAb 8 rfl⟩, ⟨_, rfl, .sl _ _ _ _ _ rfl⟩, ⟨_, rfl, .sl _ _ _ _ _ rfl⟩, ⟨_, rfl, .sl _ _ _ _ _ rfl⟩, ⟨_, rfl, .int _ _⟩, ⟨_, rfl, .sl _ _ _ _ _ rfl⟩, ⟨_, rfl, .int _ _⟩, trivial⟩ ⟨bpo (hpl), bpo (byV_plain bw), ⟨by decide, _, rfl, zAh _ _⟩, ⟨by decide, _, rfl, zAc 2 2 (by exact rfl) _⟩, bpo (zAe (r :: R)), bpo (zAf (r :: R)), bpo (zAd (r :: R)), bpo (byV_plain (x :: xs)), trivial⟩ .nil
theorem bku_011 (l : List A6) (c : Nat) (bw : Bl) (cb i : Nat) (T : List (Bl × Nat)) (en ck : Nat) (f : Nat → Option Value) (hd : ∀ x ∈ l, x.d.data.size ≤ 3000) (_ : l.length ≤ 40) (_ : bw.length ≤ 100) (_ : bw.length ≤ cb ∧ cb ≤ 9223372036854775807) (h1 : i < l.length) (t a0 : Int) (raw : Bool) (d : ByteArray) (hx : l[i] = ⟨t, a0, raw, d⟩) (r : Wt) (R : List Wt) (x : UInt8) (xs : Bl) (hxl : xs.length + 1 ≤ (bs d).length) : CW Try.prog 0 2 (2 + (Try.f7.ntmps - 2)) none (codeAt (loopAt Try.f7 0) [1, 0, 1, 1, 1, 0]) (bkF l c bw cb i T en ck [] (r :: R) (x :: xs) f) (stepK Try.prog 0 2 (2 + (Try.f7.ntmps - 2)) none (bkF l c bw cb i T en ck [] (r :: R) (x :: xs))) := by
 have hpl : plainL (l.flatMap layA6.g) = true := zAa layA6.g layA6.plain _
 obtain ⟨dom, cell, row, hsh, hdl⟩ := factB hd i h1 hx
 have hdl : (bs d).length ≤ 3000 := hdl
 have hsh : shortB d = true := hsh
 have hds := zAg d
 refine zAo tbBk [0] 2 _ none mixed _ _ _ ?_
 refine ifK (fun _ => ?_) (fun h2 => absurd (dom.symm.trans h2) (by decide))
 refine Exists.intro d (And.intro (cell 3 (by decide)) ?_)
 refine ifK (fun g => absurd (show ((xs.length + 1 : Nat) : Int) > ((bs d).length : Int) by rw [← hds]; exact of_decide_eq_true g) (by omega)) (fun _ => ?_)
 exact rcq [2, 3, 4, 5, 6, 7] ⟨⟨_, rfl, .sl _ _ _ _ _ rfl⟩, ⟨_, rfl, .sl _ _ _ _ _ rfl⟩, ⟨_, rfl, .bool _⟩, ⟨_, rfl, .ptr _ _ _ rfl⟩, ⟨_, rfl, zAb 8 rfl⟩, ⟨_, rfl, .sl _ _ _ _ _ rfl⟩, ⟨_, rfl, .sl _ _ _ _ _ rfl⟩, ⟨_, rfl, .sl _ _ _ _ _ rfl⟩, ⟨_, rfl, .int _ _⟩, ⟨_, rfl, .sl _ _ _ _ _ rfl⟩, ⟨_, rfl, .int _ _⟩, trivial⟩ ⟨bpo (hpl), bpo (byV_plain bw), ⟨by decide, _, rfl, zAh _ _⟩, ⟨by decide, _, rfl, zAc 2 2 (by exact rfl) _⟩, bpo (zAe (r :: R)), bpo (zAf (r :: R)), bpo (zAd (r :: R)), bpo (byV_plain (x :: xs)), trivial⟩ .nil
theorem bkw_100 (l : List A6) (c : Nat) (bw : Bl) (cb i : Nat) (T : List (Bl × Nat)) (en ck : Nat) (f : Nat → Option Value) (hd : ∀ x ∈ l, x.d.data.size ≤ 3000) (_ : l.length ≤ 40) (_ : bw.length ≤ 100) (_ : bw.length ≤ cb ∧ cb ≤ 9223372036854775807) (h1 : i < l.length) (t a0 : Int) (raw : Bool) (d : ByteArray) (hx : l[i] = ⟨t, a0, raw, d⟩) (u : UInt8) (us : Bl) (F : List (Bl × Nat)) (en' : Nat) (hg : goodT T) (hD : wrD en T ((us.length + 1 : Nat) : Int) t (bs d) = (0, [], F, en')) : CW Try.prog 0 2 (2 + (Try.f7.ntmps - 2)) none (codeAt (loopAt Try.f7 0) [1, 0, 1, 1, 0]) (bkE l c bw cb i T en ck (u :: us) [] f) (stepK Try.prog 0 2 (2 + (Try.f7.ntmps - 2)) none (bkF l c bw cb i (T ++ F) en' (ck + F.length) (u :: us) [] [])) := by
 have hpl : plainL (l.flatMap layA6.g) = true := zAa layA6.g layA6.plain _
 obtain ⟨dom, cell, row, hsh, hdl⟩ := factB hd i h1 hx
 have hdl : (bs d).length ≤ 3000 := hdl
 have hsh : shortB d = true := hsh
 refine zAo tbBk [0] 2 _ none mixed _ _ _ ?_
 refine And.intro (by kernel_rfl) ?_
 refine ifK (fun _ => ?_) (fun h2 => absurd (dom.symm.trans h2) (by decide))
 refine Exists.intro t (And.intro (cell 0 (by decide)) ?_)
 refine ifK (fun _ => ?_) (fun h2 => absurd (dom.symm.trans h2) (by decide))
 refine Exists.intro d (And.intro (cell 3 (by decide)) ?_)
 refine Exists.intro (⟨3, 2, en, T, ck, ((us.length + 1 : Nat) : Int), t, d, 0, [], F, en'⟩ : WrX) (And.intro ⟨rfl, (show Tr.get _ 3 = some (AObj.cells [.map (some 2), .int .i64 (en : Int)] _) from rfl), (show Tr.get _ 2 = some (AObj.map (encT T) ck) from rfl), hg, hsh, hD⟩ ?_)
 exact rcq [2, 3, 4] ⟨⟨_, rfl, .sl _ _ _ _ _ rfl⟩, ⟨_, rfl, .sl _ _ _ _ _ rfl⟩, ⟨_, rfl, .bool _⟩, ⟨_, rfl, .ptr _ _ _ rfl⟩, ⟨_, rfl, .sl _ _ _ _ _ rfl⟩, ⟨_, rfl, zAb 8 rfl⟩, ⟨_, rfl, zAb 8 rfl⟩, ⟨_, rfl, zAb 8 rfl⟩, ⟨_, rfl, .int _ _⟩, ⟨_, rfl, zAb 8 rfl⟩, ⟨_, rfl, .int _ _⟩, trivial⟩ ⟨bpo (hpl), bpo (byV_plain bw), ⟨by decide, _, rfl, zAh _ _⟩, ⟨by decide, _, rfl, zAc 2 2 (by exact rfl) _⟩, bpo (byV_plain (u :: us)), trivial⟩ .nil
theorem bku_100 (l : List A6) (c : Nat) (bw : Bl) (cb i : Nat) (T : List (Bl × Nat)) (en ck : Nat) (f : Nat → Option Value) (hd : ∀ x ∈ l, x.d.data.size ≤ 3000) (_ : l.length ≤ 40) (_ : bw.length ≤ 100) (_ : bw.length ≤ cb ∧ cb ≤ 9223372036854775807) (h1 : i < l.length) (t a0 : Int) (raw : Bool) (d : ByteArray) (hx : l[i] = ⟨t, a0, raw, d⟩) (u : UInt8) (us : Bl) : CW Try.prog 0 2 (2 + (Try.f7.ntmps - 2)) none (codeAt (loopAt Try.f7 0) [1, 0, 1, 1, 1, 0]) (bkF l c bw cb i T en ck (u :: us) [] [] f) (stepK Try.prog 0 2 (2 + (Try.f7.ntmps - 2)) none (bkF l c bw cb i T en ck (u :: us) [] [])) := by
 have hpl : plainL (l.flatMap layA6.g) = true := zAa layA6.g layA6.plain _
 obtain ⟨dom, cell, row, hsh, hdl⟩ := factB hd i h1 hx
 have hdl : (bs d).length ≤ 3000 := hdl
 have hsh : shortB d = true := hsh
 have hds := zAg d
 refine zAo tbBk [0] 2 _ none mixed _ _ _ ?_
 refine ifK (fun _ => ?_) (fun h2 => absurd (dom.symm.trans h2) (by decide))
 refine Exists.intro d (And.intro (cell 3 (by decide)) ?_)
 exact rcq [2, 3, 4] ⟨⟨_, rfl, .sl _ _ _ _ _ rfl⟩, ⟨_, rfl, .sl _ _ _ _ _ rfl⟩, ⟨_, rfl, .bool _⟩, ⟨_, rfl, .ptr _ _ _ rfl⟩, ⟨_, rfl, .sl _ _ _ _ _ rfl⟩, ⟨_, rfl, zAb 8 rfl⟩, ⟨_, rfl, zAb 8 rfl⟩, ⟨_, rfl, zAb 8 rfl⟩, ⟨_, rfl, .int _ _⟩, ⟨_, rfl, zAb 8 rfl⟩, ⟨_, rfl, .int _ _⟩, trivial⟩ ⟨bpo (hpl), bpo (byV_plain bw), ⟨by decide, _, rfl, zAh _ _⟩, ⟨by decide, _, rfl, zAc 2 2 (by exact rfl) _⟩, bpo (byV_plain (u :: us)), trivial⟩ .nil
theorem bkw_101 (l : List A6) (c : Nat) (bw : Bl) (cb i : Nat) (T : List (Bl × Nat)) (en ck : Nat) (f : Nat → Option Value) (hd : ∀ x ∈ l, x.d.data.size ≤ 3000) (_ : l.length ≤ 40) (_ : bw.length ≤ 100) (_ : bw.length ≤ cb ∧ cb ≤ 9223372036854775807) (h1 : i < l.length) (t a0 : Int) (raw : Bool) (d : ByteArray) (hx : l[i] = ⟨t, a0, raw, d⟩) (u : UInt8) (us : Bl) (x : UInt8) (xs : Bl) (F : List (Bl × Nat)) (en' : Nat) (hg : goodT T) (hD : wrD en T ((us.length + 1 : Nat) : Int) t (bs d) = (0, (x :: xs), F, en')) : CW Try.prog 0 2 (2 + (Try.f7.ntmps - 2)) none (codeAt (loopAt Try.f7 0) [1, 0, 1, 1, 0]) (bkE l c bw cb i T en ck (u :: us) [] f) (stepK Try.prog 0 2 (2 + (Try.f7.ntmps - 2)) none (bkF l c bw cb i (T ++ F) en' (ck + F.length) (u :: us) [] (x :: xs))) := by
 have hpl : plainL (l.flatMap layA6.g) = true := zAa layA6.g layA6.plain _
 obtain ⟨dom, cell, row, hsh, hdl⟩ := factB hd i h1 hx
 have hdl : (bs d).length ≤ 3000 := hdl
 have hsh : shortB d = true := hsh
 refine zAo tbBk [0] 2 _ none mixed _ _ _ ?_
 refine And.intro (by kernel_rfl) ?_
 refine ifK (fun _ => ?_) (fun h2 => absurd (dom.symm.trans h2) (by decide))
 refine Exists.intro t (And.intro (cell 0 (by decide)) ?_)
 refine ifK (fun _ => ?_) (fun h2 => absurd (dom.symm.trans h2) (by decide))
 refine Exists.intro d (And.intro (cell 3 (by decide)) ?_)
 refine Exists.intro (⟨3, 2, en, T, ck, ((us.length + 1 : Nat) : Int), t, d, 0, (x :: xs), F, en'⟩ : WrX) (And.intro ⟨rfl, (show Tr.get _ 3 = some (AObj.cells [.map (some 2), .int .i64 (en : Int)] _) from rfl), (show Tr.get _ 2 = some (AObj.map (encT T) ck) from rfl), hg, hsh, hD⟩ ?_)
 exact rcq [2, 3, 4, 5] ⟨⟨_, rfl, .sl _ _ _ _ _ rfl⟩, ⟨_, rfl, .sl _ _ _ _ _ rfl⟩, ⟨_, rfl, .bool _⟩, ⟨_, rfl, .ptr _ _ _ rfl⟩, ⟨_, rfl, .sl _ _ _ _ _ rfl⟩, ⟨_, rfl, zAb 8 rfl⟩, ⟨_, rfl, zAb 8 rfl⟩, ⟨_, rfl, zAb 8 rfl⟩, ⟨_, rfl, .int _ _⟩, ⟨_, rfl, .sl _ _ _ _ _ rfl⟩, ⟨_, rfl, .int _ _⟩, trivial⟩ ⟨bpo (hpl), bpo (byV_plain bw), ⟨by decide, _, rfl, zAh _ _⟩, ⟨by decide, _, rfl, zAc 2 2 (by exact rfl) _⟩, bpo (byV_plain (u :: us)), bpo (byV_plain (x :: xs)), trivial⟩ .nil
theorem bku_101 (l : List A6) (c : Nat) (bw : Bl) (cb i : Nat) (T : List (Bl × Nat)) (en ck : Nat) (f : Nat → Option Value) (hd : ∀ x ∈ l, x.d.data.size ≤ 3000) (_ : l.length ≤ 40) (_ : bw.length ≤ 100) (_ : bw.length ≤ cb ∧ cb ≤ 9223372036854775807) (h1 : i < l.length) (t a0 : Int) (raw : Bool) (d : ByteArray) (hx : l[i] = ⟨t, a0, raw, d⟩) (u : UInt8) (us : Bl) (x : UInt8) (xs : Bl) (hxl : xs.length + 1 ≤ (bs d).length) : CW Try.prog 0 2 (2 + (Try.f7.ntmps - 2)) none (codeAt (loopAt Try.f7 0) [1, 0, 1, 1, 1, 0]) (bkF l c bw cb i T en ck (u :: us) [] (x :: xs) f) (stepK Try.prog 0 2 (2 + (Try.f7.ntmps - 2)) none (bkF l c bw cb i T en ck (u :: us) [] (x :: xs))) := by
 have hpl : plainL (l.flatMap layA6.g) = true := zAa layA6.g layA6.plain _
 obtain ⟨dom, cell, row, hsh, hdl⟩ := factB hd i h1 hx
 have hdl : (bs d).length ≤ 3000 := hdl
 have hsh : shortB d = true := hsh
 have hds := zAg d
 refine zAo tbBk [0] 2 _ none mixed _ _ _ ?_
 refine ifK (fun _ => ?_) (fun h2 => absurd (dom.symm.trans h2) (by decide))
 refine Exists.intro d (And.intro (cell 3 (by decide)) ?_)
 refine ifK (fun g => absurd (show ((xs.length + 1 : Nat) : Int) > ((bs d).length : Int) by rw [← hds]; exact of_decide_eq_true g) (by omega)) (fun _ => ?_)
 exact rcq [2, 3, 4, 5] ⟨⟨_, rfl, .sl _ _ _ _ _ rfl⟩, ⟨_, rfl, .sl _ _ _ _ _ rfl⟩, ⟨_, rfl, .bool _⟩, ⟨_, rfl, .ptr _ _ _ rfl⟩, ⟨_, rfl, .sl _ _ _ _ _ rfl⟩, ⟨_, rfl, zAb 8 rfl⟩, ⟨_, rfl, zAb 8 rfl⟩, ⟨_, rfl, zAb 8 rfl⟩, ⟨_, rfl, .int _ _⟩, ⟨_, rfl, .sl _ _ _ _ _ rfl⟩, ⟨_, rfl, .int _ _⟩, trivial⟩ ⟨bpo (hpl), bpo (byV_plain bw), ⟨by decide, _, rfl, zAh _ _⟩, ⟨by decide, _, rfl, zAc 2 2 (by exact rfl) _⟩, bpo (byV_plain (u :: us)), bpo (byV_plain (x :: xs)), trivial⟩ .nil
theorem bkw_110 (l : List A6) (c : Nat) (bw : Bl) (cb i : Nat) (T : List (Bl × Nat)) (en ck : Nat) (f : Nat → Option Value) (hd : ∀ x ∈ l, x.d.data.size ≤ 3000) (_ : l.length ≤ 40) (_ : bw.length ≤ 100) (_ : bw.length ≤ cb ∧ cb ≤ 9223372036854775807) (h1 : i < l.length) (t a0 : Int) (raw : Bool) (d : ByteArray) (hx : l[i] = ⟨t, a0, raw, d⟩) (u : UInt8) (us : Bl) (r : Wt) (R : List Wt) (F : List (Bl × Nat)) (en' : Nat) (hg : goodT T) (hD : wrD en T ((us.length + 1 : Nat) : Int) t (bs d) = (0, [], F, en')) : CW Try.prog 0 2 (2 + (Try.f7.ntmps - 2)) none (codeAt (loopAt Try.f7 0) [1, 0, 1, 1, 0]) (bkE l c bw cb i T en ck (u :: us) (r :: R) f) (stepK Try.prog 0 2 (2 + (Try.f7.ntmps - 2)) none (bkF l c bw cb i (T ++ F) en' (ck + F.length) (u :: us) (r :: R) [])) := by
 have hpl : plainL (l.flatMap layA6.g) = true := zAa layA6.g layA6.plain _
 obtain ⟨dom, cell, row, hsh, hdl⟩ := factB hd i h1 hx
 have hdl : (bs d).length ≤ 3000 := hdl
 have hsh : shortB d = true := hsh
 refine zAo tbBk [0] 2 _ none mixed _ _ _ ?_
 refine And.intro (by kernel_rfl) ?_
 refine ifK (fun _ => ?_) (fun h2 => absurd (dom.symm.trans h2) (by decide))
 refine Exists.intro t (And.intro (cell 0 (by decide)) ?_)
 refine ifK (fun _ => ?_) (fun h2 => absurd (dom.symm.trans h2) (by decide))
 refine Exists.intro d (And.intro (cell 3 (by decide)) ?_)
 refine Exists.intro (⟨3, 2, en, T, ck, ((us.length + 1 : Nat) : Int), t, d, 0, [], F, en'⟩ : WrX) (And.intro ⟨rfl, (show Tr.get _ 3 = some (AObj.cells [.map (some 2), .int .i64 (en : Int)] _) from rfl), (show Tr.get _ 2 = some (AObj.map (encT T) ck) from rfl), hg, hsh, hD⟩ ?_)
 exact rcq [2, 3, 4, 5, 6, 7] ⟨⟨_, rfl, .sl _ _ _ _ _ rfl⟩, ⟨_, rfl, .sl _ _ _ _ _ rfl⟩, ⟨_, rfl, .bool _⟩, ⟨_, rfl, .ptr _ _ _ rfl⟩, ⟨_, rfl, .sl _ _ _ _ _ rfl⟩, ⟨_, rfl, .sl _ _ _ _ _ rfl⟩, ⟨_, rfl, .sl _ _ _ _ _ rfl⟩, ⟨_, rfl, .sl _ _ _ _ _ rfl⟩, ⟨_, rfl, .int _ _⟩, ⟨_, rfl, zAb 8 rfl⟩, ⟨_, rfl, .int _ _⟩, trivial⟩ ⟨bpo (hpl), bpo (byV_plain bw), ⟨by decide, _, rfl, zAh _ _⟩, ⟨by decide, _, rfl, zAc 2 2 (by exact rfl) _⟩, bpo (byV_plain (u :: us)), bpo (zAe (r :: R)), bpo (zAf (r :: R)), bpo (zAd (r :: R)), trivial⟩ .nil
theorem bku_110 (l : List A6) (c : Nat) (bw : Bl) (cb i : Nat) (T : List (Bl × Nat)) (en ck : Nat) (f : Nat → Option Value) (hd : ∀ x ∈ l, x.d.data.size ≤ 3000) (_ : l.length ≤ 40) (_ : bw.length ≤ 100) (_ : bw.length ≤ cb ∧ cb ≤ 9223372036854775807) (h1 : i < l.length) (t a0 : Int) (raw : Bool) (d : ByteArray) (hx : l[i] = ⟨t, a0, raw, d⟩) (u : UInt8) (us : Bl) (r : Wt) (R : List Wt) : CW Try.prog 0 2 (2 + (Try.f7.ntmps - 2)) none (codeAt (loopAt Try.f7 0) [1, 0, 1, 1, 1, 0]) (bkF l c bw cb i T en ck (u :: us) (r :: R) [] f) (stepK Try.prog 0 2 (2 + (Try.f7.ntmps - 2)) none (bkF l c bw cb i T en ck (u :: us) (r :: R) [])) := by
 have hpl : plainL (l.flatMap layA6.g) = true := zAa layA6.g layA6.plain _
 obtain ⟨dom, cell, row, hsh, hdl⟩ := factB hd i h1 hx
 have hdl : (bs d).length ≤ 3000 := hdl
 have hsh : shortB d = true := hsh
 have hds := zAg d
 refine zAo tbBk [0] 2 _ none mixed _ _ _ ?_
 refine ifK (fun _ => ?_) (fun h2 => absurd (dom.symm.trans h2) (by decide))
 refine Exists.intro d (And.intro (cell 3 (by decide)) ?_)
 exact rcq [2, 3, 4, 5, 6, 7] ⟨⟨_, rfl, .sl _ _ _ _ _ rfl⟩, ⟨_, rfl, .sl _ _ _ _ _ rfl⟩, ⟨_, rfl, .bool _⟩, ⟨_, rfl, .ptr _ _ _ rfl⟩, ⟨_, rfl, .sl _ _ _ _ _ rfl⟩, ⟨_, rfl, .sl _ _ _ _ _ rfl⟩, ⟨_, rfl, .sl _ _ _ _ _ rfl⟩, ⟨_, rfl, .sl _ _ _ _ _ rfl⟩, ⟨_, rfl, .int _ _⟩, ⟨_, rfl, zAb 8 rfl⟩, ⟨_, rfl, .int _ _⟩, trivial⟩ ⟨bpo (hpl), bpo (byV_plain bw), ⟨by decide, _, rfl, zAh _ _⟩, ⟨by decide, _, rfl, zAc 2 2 (by exact rfl) _⟩, bpo (byV_plain (u :: us)), bpo (zAe (r :: R)), bpo (zAf (r :: R)), bpo (zAd (r :: R)), trivial⟩ .nil
theorem bkw_111 (l : List A6) (c : Nat) (bw : Bl) (cb i : Nat) (T : List (Bl × Nat)) (en ck : Nat) (f : Nat → Option Value) (hd : ∀ x ∈ l, x.d.data.size ≤ 3000) (_ : l.length ≤ 40) (_ : bw.length ≤ 100) (_ : bw.length ≤ cb ∧ cb ≤ 9223372036854775807) (h1 : i < l.length) (t a0 : Int) (raw : Bool) (d : ByteArray) (hx : l[i] = ⟨t, a0, raw, d⟩) (u : UInt8) (us : Bl) (r : Wt) (R : List Wt) (x : UInt8) (xs : Bl) (F : List (Bl × Nat)) (en' : Nat) (hg : goodT T) (hD : wrD en T ((us.length + 1 : Nat) : Int) t (bs d) = (0, (x :: xs), F, en')) : CW Try.prog 0 2 (2 + (Try.f7.ntmps - 2)) none (codeAt (loopAt Try.f7 0) [1, 0, 1, 1, 0]) (bkE l c bw cb i T en ck (u :: us) (r :: R) f) (stepK Try.prog 0 2 (2 + (Try.f7.ntmps - 2)) none (bkF l c bw cb i (T ++ F) en' (ck + F.length) (u :: us) (r :: R) (x :: xs))) := by
 have hpl : plainL (l.flatMap layA6.g) = true := zAa layA6.g layA6.plain _
 obtain ⟨dom, cell, row, hsh, hdl⟩ := factB hd i h1 hx
 have hdl : (bs d).length ≤ 3000 := hdl
 have hsh : shortB d = true := hsh
 refine zAo tbBk [0] 2 _ none mixed _ _ _ ?_
 refine And.intro (by kernel_rfl) ?_
 refine ifK (fun _ => ?_) (fun h2 => absurd (dom.symm.trans h2) (by decide))
 refine Exists.intro t (And.intro (cell 0 (by decide)) ?_)
 refine ifK (fun _ => ?_) (fun h2 => absurd (dom.symm.trans h2) (by decide))
 refine Exists.intro d (And.intro (cell 3 (by decide)) ?_)
 refine Exists.intro (⟨3, 2, en, T, ck, ((us.length + 1 : Nat) : Int), t, d, 0, (x :: xs), F, en'⟩ : WrX) (And.intro ⟨rfl, (show Tr.get _ 3 = some (AObj.cells [.map (some 2), .int .i64 (en : Int)] _) from rfl), (show Tr.get _ 2 = some (AObj.map (encT T) ck) from rfl), hg, hsh, hD⟩ ?_)
 exact rcq [2, 3, 4, 5, 6, 7, 8] ⟨⟨_, rfl, .sl _ _ _ _ _ rfl⟩, ⟨_, rfl, .sl _ _ _ _ _ rfl⟩, ⟨_, rfl, .bool _⟩, ⟨_, rfl, .ptr _ _ _ rfl⟩, ⟨_, rfl, .sl _ _ _ _ _ rfl⟩, ⟨_, rfl, .sl _ _ _ _ _ rfl⟩, ⟨_, rfl, .sl _ _ _ _ _ rfl⟩, ⟨_, rfl, .sl _ _ _ _ _ rfl⟩, ⟨_, rfl, .int _ _⟩, ⟨_, rfl, .sl _ _ _ _ _ rfl⟩, ⟨_, rfl, .int _ _⟩, trivial⟩ ⟨bpo (hpl), bpo (byV_plain bw), ⟨by decide, _, rfl, zAh _ _⟩, ⟨by decide, _, rfl, zAc 2 2 (by exact rfl) _⟩, bpo (byV_plain (u :: us)), bpo (zAe (r :: R)), bpo (zAf (r :: R)), bpo (zAd (r :: R)), bpo (byV_plain (x :: xs)), trivial⟩ .nil
theorem bku_111 (l : List A6) (c : Nat) (bw : Bl) (cb i : Nat) (T : List (Bl × Nat)) (en ck : Nat) (f : Nat → Option Value) (hd : ∀ x ∈ l, x.d.data.size ≤ 3000) (_ : l.length ≤ 40) (_ : bw.length ≤ 100) (_ : bw.length ≤ cb ∧ cb ≤ 9223372036854775807) (h1 : i < l.length) (t a0 : Int) (raw : Bool) (d : ByteArray) (hx : l[i] = ⟨t, a0, raw, d⟩) (u : UInt8) (us : Bl) (r : Wt) (R : List Wt) (x : UInt8) (xs : Bl) (hxl : xs.length + 1 ≤ (bs d).length) : CW Try.prog 0 2 (2 + (Try.f7.ntmps - 2)) none (codeAt (loopAt Try.f7 0) [1, 0, 1, 1, 1, 0]) (bkF l c bw cb i T en ck (u :: us) (r :: R) (x :: xs) f) (stepK Try.prog 0 2 (2 + (Try.f7.ntmps - 2)) none (bkF l c bw cb i T en ck (u :: us) (r :: R) (x :: xs))) := by
 have hpl : plainL (l.flatMap layA6.g) = true := zAa layA6.g layA6.plain _
 obtain ⟨dom, cell, row, hsh, hdl⟩ := factB hd i h1 hx
 have hdl : (bs d).length ≤ 3000 := hdl
 have hsh : shortB d = true := hsh
 have hds := zAg d
 refine zAo tbBk [0] 2 _ none mixed _ _ _ ?_
 refine ifK (fun _ => ?_) (fun h2 => absurd (dom.symm.trans h2) (by decide))
 refine Exists.intro d (And.intro (cell 3 (by decide)) ?_)
 refine ifK (fun g => absurd (show ((xs.length + 1 : Nat) : Int) > ((bs d).length : Int) by rw [← hds]; exact of_decide_eq_true g) (by omega)) (fun _ => ?_)
 exact rcq [2, 3, 4, 5, 6, 7, 8] ⟨⟨_, rfl, .sl _ _ _ _ _ rfl⟩, ⟨_, rfl, .sl _ _ _ _ _ rfl⟩, ⟨_, rfl, .bool _⟩, ⟨_, rfl, .ptr _ _ _ rfl⟩, ⟨_, rfl, .sl _ _ _ _ _ rfl⟩, ⟨_, rfl, .sl _ _ _ _ _ rfl⟩, ⟨_, rfl, .sl _ _ _ _ _ rfl⟩, ⟨_, rfl, .sl _ _ _ _ _ rfl⟩, ⟨_, rfl, .int _ _⟩, ⟨_, rfl, .sl _ _ _ _ _ rfl⟩, ⟨_, rfl, .int _ _⟩, trivial⟩ ⟨bpo (hpl), bpo (byV_plain bw), ⟨by decide, _, rfl, zAh _ _⟩, ⟨by decide, _, rfl, zAc 2 2 (by exact rfl) _⟩, bpo (byV_plain (u :: us)), bpo (zAe (r :: R)), bpo (zAf (r :: R)), bpo (zAd (r :: R)), bpo (byV_plain (x :: xs)), trivial⟩ .nil
end Go.Proofs.Ytjdecbfjpkpepaa
namespace Go.Proofs.Ytjdecbfjpkpepaa
open Go Go.RowKit
theorem zLo (R : List Wt) : (R.flatMap acV).length = R.length * 4 := zAm acV 4 (fun _ => rfl) R
theorem bks_000 (l : List A6) (c : Nat) (bw : Bl) (cb i : Nat) (T : List (Bl × Nat)) (en ck : Nat) (f : Nat → Option Value) (hd : ∀ x ∈ l, x.d.data.size ≤ 3000) (_ : l.length ≤ 40) (_ : bw.length ≤ 100) (_ : bw.length ≤ cb ∧ cb ≤ 9223372036854775807) (h1 : i < l.length) (t a0 : Int) (raw : Bool) (d : ByteArray) (hx : l[i] = ⟨t, a0, raw, d⟩) : CW Try.prog 0 2 (2 + (Try.f7.ntmps - 2)) none (codeAt (loopAt Try.f7 0) [1, 0, 1, 1, 1, 1]) (bkF l c bw cb i T en ck [] [] [] f) (stepK Try.prog 0 2 (2 + (Try.f7.ntmps - 2)) none (bkE l c bw cb i T en ck [] [(0, 0, (⟨t, a0, raw, d⟩ : A6))])) := by
 have hpl : plainL (l.flatMap layA6.g) = true := zAa layA6.g layA6.plain _
 obtain ⟨dom, cell, row, hsh, hdl⟩ := factB hd i h1 hx
 have hdl : (bs d).length ≤ 3000 := hdl
 have hsh : shortB d = true := hsh
 have h1s : (Try.prog.types[5]).size = 1 := by kernel_rfl
 have hby : (Try.prog.types[5]).bytes = 1 := by kernel_rfl
 have i1s : (Try.prog.types[3]).size = 1 := by kernel_rfl
 have i8s : (Try.prog.types[3]).bytes = 8 := by kernel_rfl
 have hsz : (Try.prog.types[46]).size = 4 := by kernel_rfl
 have hab : (Try.prog.types[46]).bytes ≤ 1000 := Nat.le_of_ble_eq_true (by kernel_rfl)
 refine zAo tbBk [0] 2 _ none mixed _ _ _ ?_
 refine ifK (fun _ => ?_) (fun h2 => absurd (dom.symm.trans h2) (by decide))
 refine Exists.intro t (Exists.intro a0 (Exists.intro raw (Exists.intro d (And.intro row ?_))))
 exact rcq [2, 3, 5, 7, 9] ⟨⟨_, rfl, .sl _ _ _ _ _ rfl⟩, ⟨_, rfl, .sl _ _ _ _ _ rfl⟩, ⟨_, rfl, .bool _⟩, ⟨_, rfl, .ptr _ _ _ rfl⟩, ⟨_, rfl, zAb 8 rfl⟩, ⟨_, rfl, .sl _ _ _ _ _ rfl⟩, ⟨_, rfl, .sl _ _ _ _ _ rfl⟩, ⟨_, rfl, .sl _ _ _ _ _ rfl⟩, ⟨_, rfl, .int _ _⟩, trivial⟩ ⟨bpo (hpl), bpo (byV_plain bw), ⟨by decide, _, rfl, zAh _ _⟩, ⟨by decide, _, rfl, zAc 2 2 (by exact rfl) _⟩, ⟨by decide, _, rfl, zAw rfl (zAe _)⟩, ⟨by decide, _, rfl, zAw rfl (zAf _)⟩, ⟨by decide, _, rfl, zAw rfl (zAd _)⟩, trivial⟩ .nil
theorem bks_001 (l : List A6) (c : Nat) (bw : Bl) (cb i : Nat) (T : List (Bl × Nat)) (en ck : Nat) (f : Nat → Option Value) (hd : ∀ x ∈ l, x.d.data.size ≤ 3000) (_ : l.length ≤ 40) (_ : bw.length ≤ 100) (_ : bw.length ≤ cb ∧ cb ≤ 9223372036854775807) (h1 : i < l.length) (t a0 : Int) (raw : Bool) (d : ByteArray) (hx : l[i] = ⟨t, a0, raw, d⟩) (x : UInt8) (xs : Bl) (hxs : xs.length + 1 ≤ 3000) : CW Try.prog 0 2 (2 + (Try.f7.ntmps - 2)) none (codeAt (loopAt Try.f7 0) [1, 0, 1, 1, 1, 1]) (bkF l c bw cb i T en ck [] [] (x :: xs) f) (stepK Try.prog 0 2 (2 + (Try.f7.ntmps - 2)) none (bkE l c bw cb i T en ck (x :: xs) [(0, xs.length + 1, (⟨t, a0, raw, d⟩ : A6))])) := by
 have hpl : plainL (l.flatMap layA6.g) = true := zAa layA6.g layA6.plain _
 obtain ⟨dom, cell, row, hsh, hdl⟩ := factB hd i h1 hx
 have hdl : (bs d).length ≤ 3000 := hdl
 have hsh : shortB d = true := hsh
 have h1s : (Try.prog.types[5]).size = 1 := by kernel_rfl
 have hby : (Try.prog.types[5]).bytes = 1 := by kernel_rfl
 have i1s : (Try.prog.types[3]).size = 1 := by kernel_rfl
 have i8s : (Try.prog.types[3]).bytes = 8 := by kernel_rfl
 have hsz : (Try.prog.types[46]).size = 4 := by kernel_rfl
 have hab : (Try.prog.types[46]).bytes ≤ 1000 := Nat.le_of_ble_eq_true (by kernel_rfl)
 refine zAo tbBk [0, 4] 2 _ none mixed _ _ _ ?_
 refine ifK (fun _ => ?_) (fun h2 => absurd (dom.symm.trans h2) (by decide))
 refine Exists.intro t (Exists.intro a0 (Exists.intro raw (Exists.intro d (And.intro row ?_))))
 refine Exists.intro ((x :: xs).map byV) (And.intro (zLc (l := x :: xs) h1s rfl) ?_)
 have hone : oneL ((x :: xs).map byV) = true := oneB _
 refine And.intro (by rw [hby]; simp only [Bool.and_eq_true]; exact ⟨decide_eq_true (by omega), decide_eq_true (by omega)⟩) ?_
 exact rcq [2, 3, 11, 6, 8, 10] ⟨⟨_, rfl, .sl _ _ _ _ _ rfl⟩, ⟨_, rfl, .sl _ _ _ _ _ rfl⟩, ⟨_, rfl, .bool _⟩, ⟨_, rfl, .ptr _ _ _ rfl⟩, ⟨_, rfl, .sl _ _ _ _ _ rfl⟩, ⟨_, rfl, .sl _ _ _ _ _ rfl⟩, ⟨_, rfl, .sl _ _ _ _ _ rfl⟩, ⟨_, rfl, .sl _ _ _ _ _ rfl⟩, ⟨_, rfl, .int _ _⟩, trivial⟩ ⟨bpo (hpl), bpo (byV_plain bw), ⟨by decide, _, rfl, zAh _ _⟩, ⟨by decide, _, rfl, zAc 2 2 (by exact rfl) _⟩, ⟨by decide, _, rfl, zAw rfl (byV_plain _)⟩, ⟨by decide, _, rfl, zAw rfl (zAe _)⟩, ⟨by decide, _, rfl, zAw rfl (zAf _)⟩, ⟨by decide, _, rfl, zAw rfl (zAd _)⟩, trivial⟩ .nil
theorem bks_010 (l : List A6) (c : Nat) (bw : Bl) (cb i : Nat) (T : List (Bl × Nat)) (en ck : Nat) (f : Nat → Option Value) (hd : ∀ x ∈ l, x.d.data.size ≤ 3000) (_ : l.length ≤ 40) (_ : bw.length ≤ 100) (_ : bw.length ≤ cb ∧ cb ≤ 9223372036854775807) (h1 : i < l.length) (t a0 : Int) (raw : Bool) (d : ByteArray) (hx : l[i] = ⟨t, a0, raw, d⟩) (r : Wt) (R : List Wt) (hRl : R.length ≤ 40) : CW Try.prog 0 2 (2 + (Try.f7.ntmps - 2)) none (codeAt (loopAt Try.f7 0) [1, 0, 1, 1, 1, 1]) (bkF l c bw cb i T en ck [] (r :: R) [] f) (stepK Try.prog 0 2 (2 + (Try.f7.ntmps - 2)) none (bkE l c bw cb i T en ck [] (r :: (R ++ [(0, 0, (⟨t, a0, raw, d⟩ : A6))])))) := by
 have hpl : plainL (l.flatMap layA6.g) = true := zAa layA6.g layA6.plain _
 obtain ⟨dom, cell, row, hsh, hdl⟩ := factB hd i h1 hx
 have hdl : (bs d).length ≤ 3000 := hdl
 have hsh : shortB d = true := hsh
 have h1s : (Try.prog.types[5]).size = 1 := by kernel_rfl
 have hby : (Try.prog.types[5]).bytes = 1 := by kernel_rfl
 have i1s : (Try.prog.types[3]).size = 1 := by kernel_rfl
 have i8s : (Try.prog.types[3]).bytes = 8 := by kernel_rfl
 have hsz : (Try.prog.types[46]).size = 4 := by kernel_rfl
 have hab : (Try.prog.types[46]).bytes ≤ 1000 := Nat.le_of_ble_eq_true (by kernel_rfl)
 refine zAo tbBk [0] 2 _ none mixed _ _ _ ?_
 refine And.intro (by rw [i1s, i8s]; simp only [Bool.and_eq_true, decide_eq_true_eq]; exact ⟨⟨⟨⟨⟨⟨rfl, rfl⟩, Nat.ble_eq_true_of_le (by simp)⟩, rfl⟩, (by omega)⟩, (by omega)⟩, Nat.ble_eq_true_of_le (by simp)⟩) ?_
 refine And.intro (by rw [i1s, i8s]; simp only [Bool.and_eq_true, decide_eq_true_eq]; exact ⟨⟨⟨⟨⟨⟨rfl, rfl⟩, Nat.ble_eq_true_of_le (by simp)⟩, rfl⟩, (by omega)⟩, (by omega)⟩, Nat.ble_eq_true_of_le (by simp)⟩) ?_
 refine ifK (fun _ => ?_) (fun h2 => absurd (dom.symm.trans h2) (by decide))
 refine Exists.intro t (Exists.intro a0 (Exists.intro raw (Exists.intro d (And.intro row ?_))))
 have hfl : ((r :: R).flatMap acV).length = (R.length + 1) * 4 := zLo (r :: R)
 have hml : (R.length + 1 + 1) * (Try.prog.types[46]).bytes ≤ 140737488355328 := Nat.le_trans (Nat.mul_le_mul (show R.length + 1 + 1 ≤ 42 by omega) hab) (by decide)
 refine And.intro (by rw [hsz]; simp only [Bool.and_eq_true, decide_eq_true_eq]; exact ⟨⟨⟨⟨⟨⟨rfl, rfl⟩, Nat.ble_eq_true_of_le (by rw [hfl]; exact Nat.le_refl _)⟩, rfl⟩, hml⟩, (by omega)⟩, Nat.ble_eq_true_of_le (by rw [hfl]; simp)⟩) ?_
 have hlenR : R.length + 1 + 1 = (R ++ [(0, 0, (⟨t, a0, raw, d⟩ : A6))]).length + 1 := by simp
 have hat : List.take ((R.length + 1) * (Try.prog.types[3]).size) ((r :: R).map atV) ++ [atV (0, 0, (⟨t, a0, raw, d⟩ : A6))] = (r :: (R ++ [(0, 0, (⟨t, a0, raw, d⟩ : A6))])).map atV := by rw [i1s, Nat.mul_one, List.take_of_length_le (by simp)]; simp
 have hst : List.take ((R.length + 1) * (Try.prog.types[3]).size) ((r :: R).map szV) ++ [szV (0, 0, (⟨t, a0, raw, d⟩ : A6))] = (r :: (R ++ [(0, 0, (⟨t, a0, raw, d⟩ : A6))])).map szV := by rw [i1s, Nat.mul_one, List.take_of_length_le (by simp)]; simp
 have hct : List.take ((R.length + 1) * (Try.prog.types[46]).size) ((r :: R).flatMap acV) ++ acV (0, 0, (⟨t, a0, raw, d⟩ : A6)) = (r :: (R ++ [(0, 0, (⟨t, a0, raw, d⟩ : A6))])).flatMap acV := by rw [hsz, List.take_of_length_le (by rw [hfl]; exact Nat.le_refl _)]; simp
 exact rcq [2, 3, 8, 10, 12] ⟨⟨_, rfl, .sl _ _ _ _ _ rfl⟩, ⟨_, rfl, .sl _ _ _ _ _ rfl⟩, ⟨_, rfl, .bool _⟩, ⟨_, rfl, .ptr _ _ _ rfl⟩, ⟨_, rfl, zAb 8 rfl⟩, ⟨_, rfl, by show RV _ (.slice _ (R.length + 1 + 1) U) _; rw [hlenR]; exact .sl _ _ _ _ _ rfl⟩, ⟨_, rfl, by show RV _ (.slice _ (R.length + 1 + 1) U) _; rw [hlenR]; exact .sl _ _ _ _ _ rfl⟩, ⟨_, rfl, by show RV _ (.slice _ (R.length + 1 + 1) U) _; rw [hlenR]; exact .sl _ _ _ _ _ rfl⟩, ⟨_, rfl, .int _ _⟩, trivial⟩ ⟨bpo (hpl), bpo (byV_plain bw), ⟨by decide, _, rfl, zAh _ _⟩, ⟨by decide, _, rfl, zAc 2 2 (by exact rfl) _⟩, ⟨by decide, _, rfl, zAw hat (zAe _)⟩, ⟨by decide, _, rfl, zAw hst (zAf _)⟩, ⟨by decide, _, rfl, zAw hct (zAd _)⟩, trivial⟩ .nil
theorem bks_011 (l : List A6) (c : Nat) (bw : Bl) (cb i : Nat) (T : List (Bl × Nat)) (en ck : Nat) (f : Nat → Option Value) (hd : ∀ x ∈ l, x.d.data.size ≤ 3000) (_ : l.length ≤ 40) (_ : bw.length ≤ 100) (_ : bw.length ≤ cb ∧ cb ≤ 9223372036854775807) (h1 : i < l.length) (t a0 : Int) (raw : Bool) (d : ByteArray) (hx : l[i] = ⟨t, a0, raw, d⟩) (r : Wt) (R : List Wt) (x : UInt8) (xs : Bl) (hxs : xs.length + 1 ≤ 3000) (hRl : R.length ≤ 40) : CW Try.prog 0 2 (2 + (Try.f7.ntmps - 2)) none (codeAt (loopAt Try.f7 0) [1, 0, 1, 1, 1, 1]) (bkF l c bw cb i T en ck [] (r :: R) (x :: xs) f) (stepK Try.prog 0 2 (2 + (Try.f7.ntmps - 2)) none (bkE l c bw cb i T en ck (x :: xs) (r :: (R ++ [(0, xs.length + 1, (⟨t, a0, raw, d⟩ : A6))])))) := by
 have hpl : plainL (l.flatMap layA6.g) = true := zAa layA6.g layA6.plain _
 obtain ⟨dom, cell, row, hsh, hdl⟩ := factB hd i h1 hx
 have hdl : (bs d).length ≤ 3000 := hdl
 have hsh : shortB d = true := hsh
 have h1s : (Try.prog.types[5]).size = 1 := by kernel_rfl
 have hby : (Try.prog.types[5]).bytes = 1 := by kernel_rfl
 have i1s : (Try.prog.types[3]).size = 1 := by kernel_rfl
 have i8s : (Try.prog.types[3]).bytes = 8 := by kernel_rfl
 have hsz : (Try.prog.types[46]).size = 4 := by kernel_rfl
 have hab : (Try.prog.types[46]).bytes ≤ 1000 := Nat.le_of_ble_eq_true (by kernel_rfl)
 refine zAo tbBk [0, 7] 2 _ none mixed _ _ _ ?_
 refine And.intro (by rw [i1s, i8s]; simp only [Bool.and_eq_true, decide_eq_true_eq]; exact ⟨⟨⟨⟨⟨⟨rfl, rfl⟩, Nat.ble_eq_true_of_le (by simp)⟩, rfl⟩, (by omega)⟩, (by omega)⟩, Nat.ble_eq_true_of_le (by simp)⟩) ?_
 refine And.intro (by rw [i1s, i8s]; simp only [Bool.and_eq_true, decide_eq_true_eq]; exact ⟨⟨⟨⟨⟨⟨rfl, rfl⟩, Nat.ble_eq_true_of_le (by simp)⟩, rfl⟩, (by omega)⟩, (by omega)⟩, Nat.ble_eq_true_of_le (by simp)⟩) ?_
 refine ifK (fun _ => ?_) (fun h2 => absurd (dom.symm.trans h2) (by decide))
 refine Exists.intro t (Exists.intro a0 (Exists.intro raw (Exists.intro d (And.intro row ?_))))
 have hfl : ((r :: R).flatMap acV).length = (R.length + 1) * 4 := zLo (r :: R)
 have hml : (R.length + 1 + 1) * (Try.prog.types[46]).bytes ≤ 140737488355328 := Nat.le_trans (Nat.mul_le_mul (show R.length + 1 + 1 ≤ 42 by omega) hab) (by decide)
 refine And.intro (by rw [hsz]; simp only [Bool.and_eq_true, decide_eq_true_eq]; exact ⟨⟨⟨⟨⟨⟨rfl, rfl⟩, Nat.ble_eq_true_of_le (by rw [hfl]; exact Nat.le_refl _)⟩, rfl⟩, hml⟩, (by omega)⟩, Nat.ble_eq_true_of_le (by rw [hfl]; simp)⟩) ?_
 have hlenR : R.length + 1 + 1 = (R ++ [(0, xs.length + 1, (⟨t, a0, raw, d⟩ : A6))]).length + 1 := by simp
 have hat : List.take ((R.length + 1) * (Try.prog.types[3]).size) ((r :: R).map atV) ++ [atV (0, xs.length + 1, (⟨t, a0, raw, d⟩ : A6))] = (r :: (R ++ [(0, xs.length + 1, (⟨t, a0, raw, d⟩ : A6))])).map atV := by rw [i1s, Nat.mul_one, List.take_of_length_le (by simp)]; simp
 have hst : List.take ((R.length + 1) * (Try.prog.types[3]).size) ((r :: R).map szV) ++ [szV (0, xs.length + 1, (⟨t, a0, raw, d⟩ : A6))] = (r :: (R ++ [(0, xs.length + 1, (⟨t, a0, raw, d⟩ : A6))])).map szV := by rw [i1s, Nat.mul_one, List.take_of_length_le (by simp)]; simp
 have hct : List.take ((R.length + 1) * (Try.prog.types[46]).size) ((r :: R).flatMap acV) ++ acV (0, xs.length + 1, (⟨t, a0, raw, d⟩ : A6)) = (r :: (R ++ [(0, xs.length + 1, (⟨t, a0, raw, d⟩ : A6))])).flatMap acV := by rw [hsz, List.take_of_length_le (by rw [hfl]; exact Nat.le_refl _)]; simp
 refine Exists.intro ((x :: xs).map byV) (And.intro (zLc (l := x :: xs) h1s rfl) ?_)
 have hone : oneL ((x :: xs).map byV) = true := oneB _
 refine And.intro (by rw [hby]; simp only [Bool.and_eq_true]; exact ⟨decide_eq_true (by omega), decide_eq_true (by omega)⟩) ?_
 exact rcq [2, 3, 14, 9, 11, 13] ⟨⟨_, rfl, .sl _ _ _ _ _ rfl⟩, ⟨_, rfl, .sl _ _ _ _ _ rfl⟩, ⟨_, rfl, .bool _⟩, ⟨_, rfl, .ptr _ _ _ rfl⟩, ⟨_, rfl, .sl _ _ _ _ _ rfl⟩, ⟨_, rfl, by show RV _ (.slice _ (R.length + 1 + 1) U) _; rw [hlenR]; exact .sl _ _ _ _ _ rfl⟩, ⟨_, rfl, by show RV _ (.slice _ (R.length + 1 + 1) U) _; rw [hlenR]; exact .sl _ _ _ _ _ rfl⟩, ⟨_, rfl, by show RV _ (.slice _ (R.length + 1 + 1) U) _; rw [hlenR]; exact .sl _ _ _ _ _ rfl⟩, ⟨_, rfl, .int _ _⟩, trivial⟩ ⟨bpo (hpl), bpo (byV_plain bw), ⟨by decide, _, rfl, zAh _ _⟩, ⟨by decide, _, rfl, zAc 2 2 (by exact rfl) _⟩, ⟨by decide, _, rfl, zAw rfl (byV_plain _)⟩, ⟨by decide, _, rfl, zAw hat (zAe _)⟩, ⟨by decide, _, rfl, zAw hst (zAf _)⟩, ⟨by decide, _, rfl, zAw hct (zAd _)⟩, trivial⟩ .nil
theorem bks_100 (l : List A6) (c : Nat) (bw : Bl) (cb i : Nat) (T : List (Bl × Nat)) (en ck : Nat) (f : Nat → Option Value) (hd : ∀ x ∈ l, x.d.data.size ≤ 3000) (_ : l.length ≤ 40) (_ : bw.length ≤ 100) (_ : bw.length ≤ cb ∧ cb ≤ 9223372036854775807) (h1 : i < l.length) (t a0 : Int) (raw : Bool) (d : ByteArray) (hx : l[i] = ⟨t, a0, raw, d⟩) (u : UInt8) (us : Bl) (_ : us.length + 1 ≤ 70000) : CW Try.prog 0 2 (2 + (Try.f7.ntmps - 2)) none (codeAt (loopAt Try.f7 0) [1, 0, 1, 1, 1, 1]) (bkF l c bw cb i T en ck (u :: us) [] [] f) (stepK Try.prog 0 2 (2 + (Try.f7.ntmps - 2)) none (bkE l c bw cb i T en ck (u :: us) [(us.length + 1, 0, (⟨t, a0, raw, d⟩ : A6))])) := by
 have hpl : plainL (l.flatMap layA6.g) = true := zAa layA6.g layA6.plain _
 obtain ⟨dom, cell, row, hsh, hdl⟩ := factB hd i h1 hx
 have hdl : (bs d).length ≤ 3000 := hdl
 have hsh : shortB d = true := hsh
 have h1s : (Try.prog.types[5]).size = 1 := by kernel_rfl
 have hby : (Try.prog.types[5]).bytes = 1 := by kernel_rfl
 have i1s : (Try.prog.types[3]).size = 1 := by kernel_rfl
 have i8s : (Try.prog.types[3]).bytes = 8 := by kernel_rfl
 have hsz : (Try.prog.types[46]).size = 4 := by kernel_rfl
 have hab : (Try.prog.types[46]).bytes ≤ 1000 := Nat.le_of_ble_eq_true (by kernel_rfl)
 refine zAo tbBk [0] 2 _ none mixed _ _ _ ?_
 refine ifK (fun _ => ?_) (fun h2 => absurd (dom.symm.trans h2) (by decide))
 refine Exists.intro t (Exists.intro a0 (Exists.intro raw (Exists.intro d (And.intro row ?_))))
 exact rcq [2, 3, 4, 6, 8, 10] ⟨⟨_, rfl, .sl _ _ _ _ _ rfl⟩, ⟨_, rfl, .sl _ _ _ _ _ rfl⟩, ⟨_, rfl, .bool _⟩, ⟨_, rfl, .ptr _ _ _ rfl⟩, ⟨_, rfl, .sl _ _ _ _ _ rfl⟩, ⟨_, rfl, .sl _ _ _ _ _ rfl⟩, ⟨_, rfl, .sl _ _ _ _ _ rfl⟩, ⟨_, rfl, .sl _ _ _ _ _ rfl⟩, ⟨_, rfl, .int _ _⟩, trivial⟩ ⟨bpo (hpl), bpo (byV_plain bw), ⟨by decide, _, rfl, zAh _ _⟩, ⟨by decide, _, rfl, zAc 2 2 (by exact rfl) _⟩, ⟨by decide, _, rfl, zAw rfl (byV_plain _)⟩, ⟨by decide, _, rfl, zAw rfl (zAe _)⟩, ⟨by decide, _, rfl, zAw rfl (zAf _)⟩, ⟨by decide, _, rfl, zAw rfl (zAd _)⟩, trivial⟩ .nil
theorem bks_101 (l : List A6) (c : Nat) (bw : Bl) (cb i : Nat) (T : List (Bl × Nat)) (en ck : Nat) (f : Nat → Option Value) (hd : ∀ x ∈ l, x.d.data.size ≤ 3000) (_ : l.length ≤ 40) (_ : bw.length ≤ 100) (_ : bw.length ≤ cb ∧ cb ≤ 9223372036854775807) (h1 : i < l.length) (t a0 : Int) (raw : Bool) (d : ByteArray) (hx : l[i] = ⟨t, a0, raw, d⟩) (u : UInt8) (us : Bl) (x : UInt8) (xs : Bl) (hus : us.length + 1 ≤ 70000) (hxs : xs.length + 1 ≤ 3000) : CW Try.prog 0 2 (2 + (Try.f7.ntmps - 2)) none (codeAt (loopAt Try.f7 0) [1, 0, 1, 1, 1, 1]) (bkF l c bw cb i T en ck (u :: us) [] (x :: xs) f) (stepK Try.prog 0 2 (2 + (Try.f7.ntmps - 2)) none (bkE l c bw cb i T en ck (u :: (us ++ x :: xs)) [(us.length + 1, xs.length + 1, (⟨t, a0, raw, d⟩ : A6))])) := by
 have hpl : plainL (l.flatMap layA6.g) = true := zAa layA6.g layA6.plain _
 obtain ⟨dom, cell, row, hsh, hdl⟩ := factB hd i h1 hx
 have hdl : (bs d).length ≤ 3000 := hdl
 have hsh : shortB d = true := hsh
 have h1s : (Try.prog.types[5]).size = 1 := by kernel_rfl
 have hby : (Try.prog.types[5]).bytes = 1 := by kernel_rfl
 have i1s : (Try.prog.types[3]).size = 1 := by kernel_rfl
 have i8s : (Try.prog.types[3]).bytes = 8 := by kernel_rfl
 have hsz : (Try.prog.types[46]).size = 4 := by kernel_rfl
 have hab : (Try.prog.types[46]).bytes ≤ 1000 := Nat.le_of_ble_eq_true (by kernel_rfl)
 refine zAo tbBk [0, 5] 2 _ none mixed _ _ _ ?_
 refine ifK (fun _ => ?_) (fun h2 => absurd (dom.symm.trans h2) (by decide))
 refine Exists.intro t (Exists.intro a0 (Exists.intro raw (Exists.intro d (And.intro row ?_))))
 refine Exists.intro ((x :: xs).map byV) (And.intro (zLc (l := x :: xs) h1s rfl) ?_)
 have hone : oneL ((x :: xs).map byV) = true := oneB _
 refine And.intro (by rw [h1s, hby]; simp only [Bool.and_eq_true, decide_eq_true_eq]; exact ⟨⟨⟨⟨⟨⟨rfl, rfl⟩, Nat.ble_eq_true_of_le (by simp)⟩, hone⟩, (by omega)⟩, (by omega)⟩, Nat.ble_eq_true_of_le (by simp)⟩) ?_
 have hlenb : us.length + 1 + (xs.length + 1) = (us ++ x :: xs).length + 1 := by simp; omega
 have hcells : List.take ((us.length + 1) * (Try.prog.types[5]).size) ((u :: us).map byV) ++ (x :: xs).map byV = (u :: (us ++ x :: xs)).map byV := by rw [h1s, Nat.mul_one, List.take_of_length_le (by simp)]; simp
 exact rcq [2, 3, 12, 7, 9, 11] ⟨⟨_, rfl, .sl _ _ _ _ _ rfl⟩, ⟨_, rfl, .sl _ _ _ _ _ rfl⟩, ⟨_, rfl, .bool _⟩, ⟨_, rfl, .ptr _ _ _ rfl⟩, ⟨_, rfl, by show RV _ (.slice _ (us.length + 1 + (xs.length + 1)) U) _; rw [hlenb]; exact .sl _ _ _ _ _ rfl⟩, ⟨_, rfl, .sl _ _ _ _ _ rfl⟩, ⟨_, rfl, .sl _ _ _ _ _ rfl⟩, ⟨_, rfl, .sl _ _ _ _ _ rfl⟩, ⟨_, rfl, .int _ _⟩, trivial⟩ ⟨bpo (hpl), bpo (byV_plain bw), ⟨by decide, _, rfl, zAh _ _⟩, ⟨by decide, _, rfl, zAc 2 2 (by exact rfl) _⟩, ⟨by decide, _, rfl, zAw hcells (byV_plain _)⟩, ⟨by decide, _, rfl, zAw rfl (zAe _)⟩, ⟨by decide, _, rfl, zAw rfl (zAf _)⟩, ⟨by decide, _, rfl, zAw rfl (zAd _)⟩, trivial⟩ .nil
theorem bks_110 (l : List A6) (c : Nat) (bw : Bl) (cb i : Nat) (T : List (Bl × Nat)) (en ck : Nat) (f : Nat → Option Value) (hd : ∀ x ∈ l, x.d.data.size ≤ 3000) (_ : l.length ≤ 40) (_ : bw.length ≤ 100) (_ : bw.length ≤ cb ∧ cb ≤ 9223372036854775807) (h1 : i < l.length) (t a0 : Int) (raw : Bool) (d : ByteArray) (hx : l[i] = ⟨t, a0, raw, d⟩) (u : UInt8) (us : Bl) (r : Wt) (R : List Wt) (_ : us.length + 1 ≤ 70000) (hRl : R.length ≤ 40) : CW Try.prog 0 2 (2 + (Try.f7.ntmps - 2)) none (codeAt (loopAt Try.f7 0) [1, 0, 1, 1, 1, 1]) (bkF l c bw cb i T en ck (u :: us) (r :: R) [] f) (stepK Try.prog 0 2 (2 + (Try.f7.ntmps - 2)) none (bkE l c bw cb i T en ck (u :: us) (r :: (R ++ [(us.length + 1, 0, (⟨t, a0, raw, d⟩ : A6))])))) := by
 have hpl : plainL (l.flatMap layA6.g) = true := zAa layA6.g layA6.plain _
 obtain ⟨dom, cell, row, hsh, hdl⟩ := factB hd i h1 hx
 have hdl : (bs d).length ≤ 3000 := hdl
 have hsh : shortB d = true := hsh
 have h1s : (Try.prog.types[5]).size = 1 := by kernel_rfl
 have hby : (Try.prog.types[5]).bytes = 1 := by kernel_rfl
 have i1s : (Try.prog.types[3]).size = 1 := by kernel_rfl
 have i8s : (Try.prog.types[3]).bytes = 8 := by kernel_rfl
 have hsz : (Try.prog.types[46]).size = 4 := by kernel_rfl
 have hab : (Try.prog.types[46]).bytes ≤ 1000 := Nat.le_of_ble_eq_true (by kernel_rfl)
 refine zAo tbBk [0] 2 _ none mixed _ _ _ ?_
 refine And.intro (by rw [i1s, i8s]; simp only [Bool.and_eq_true, decide_eq_true_eq]; exact ⟨⟨⟨⟨⟨⟨rfl, rfl⟩, Nat.ble_eq_true_of_le (by simp)⟩, rfl⟩, (by omega)⟩, (by omega)⟩, Nat.ble_eq_true_of_le (by simp)⟩) ?_
 refine And.intro (by rw [i1s, i8s]; simp only [Bool.and_eq_true, decide_eq_true_eq]; exact ⟨⟨⟨⟨⟨⟨rfl, rfl⟩, Nat.ble_eq_true_of_le (by simp)⟩, rfl⟩, (by omega)⟩, (by omega)⟩, Nat.ble_eq_true_of_le (by simp)⟩) ?_
 refine ifK (fun _ => ?_) (fun h2 => absurd (dom.symm.trans h2) (by decide))
 refine Exists.intro t (Exists.intro a0 (Exists.intro raw (Exists.intro d (And.intro row ?_))))
 have hfl : ((r :: R).flatMap acV).length = (R.length + 1) * 4 := zLo (r :: R)
 have hml : (R.length + 1 + 1) * (Try.prog.types[46]).bytes ≤ 140737488355328 := Nat.le_trans (Nat.mul_le_mul (show R.length + 1 + 1 ≤ 42 by omega) hab) (by decide)
 refine And.intro (by rw [hsz]; simp only [Bool.and_eq_true, decide_eq_true_eq]; exact ⟨⟨⟨⟨⟨⟨rfl, rfl⟩, Nat.ble_eq_true_of_le (by rw [hfl]; exact Nat.le_refl _)⟩, rfl⟩, hml⟩, (by omega)⟩, Nat.ble_eq_true_of_le (by rw [hfl]; simp)⟩) ?_
 have hlenR : R.length + 1 + 1 = (R ++ [(us.length + 1, 0, (⟨t, a0, raw, d⟩ : A6))]).length + 1 := by simp
 have hat : List.take ((R.length + 1) * (Try.prog.types[3]).size) ((r :: R).map atV) ++ [atV (us.length + 1, 0, (⟨t, a0, raw, d⟩ : A6))] = (r :: (R ++ [(us.length + 1, 0, (⟨t, a0, raw, d⟩ : A6))])).map atV := by rw [i1s, Nat.mul_one, List.take_of_length_le (by simp)]; simp
 have hst : List.take ((R.length + 1) * (Try.prog.types[3]).size) ((r :: R).map szV) ++ [szV (us.length + 1, 0, (⟨t, a0, raw, d⟩ : A6))] = (r :: (R ++ [(us.length + 1, 0, (⟨t, a0, raw, d⟩ : A6))])).map szV := by rw [i1s, Nat.mul_one, List.take_of_length_le (by simp)]; simp
 have hct : List.take ((R.length + 1) * (Try.prog.types[46]).size) ((r :: R).flatMap acV) ++ acV (us.length + 1, 0, (⟨t, a0, raw, d⟩ : A6)) = (r :: (R ++ [(us.length + 1, 0, (⟨t, a0, raw, d⟩ : A6))])).flatMap acV := by rw [hsz, List.take_of_length_le (by rw [hfl]; exact Nat.le_refl _)]; simp
 exact rcq [2, 3, 4, 9, 11, 13] ⟨⟨_, rfl, .sl _ _ _ _ _ rfl⟩, ⟨_, rfl, .sl _ _ _ _ _ rfl⟩, ⟨_, rfl, .bool _⟩, ⟨_, rfl, .ptr _ _ _ rfl⟩, ⟨_, rfl, .sl _ _ _ _ _ rfl⟩, ⟨_, rfl, by show RV _ (.slice _ (R.length + 1 + 1) U) _; rw [hlenR]; exact .sl _ _ _ _ _ rfl⟩, ⟨_, rfl, by show RV _ (.slice _ (R.length + 1 + 1) U) _; rw [hlenR]; exact .sl _ _ _ _ _ rfl⟩, ⟨_, rfl, by show RV _ (.slice _ (R.length + 1 + 1) U) _; rw [hlenR]; exact .sl _ _ _ _ _ rfl⟩, ⟨_, rfl, .int _ _⟩, trivial⟩ ⟨bpo (hpl), bpo (byV_plain bw), ⟨by decide, _, rfl, zAh _ _⟩, ⟨by decide, _, rfl, zAc 2 2 (by exact rfl) _⟩, ⟨by decide, _, rfl, zAw rfl (byV_plain _)⟩, ⟨by decide, _, rfl, zAw hat (zAe _)⟩, ⟨by decide, _, rfl, zAw hst (zAf _)⟩, ⟨by decide, _, rfl, zAw hct (zAd _)⟩, trivial⟩ .nil
theorem bks_111 (l : List A6) (c : Nat) (bw : Bl) (cb i : Nat) (T : List (Bl × Nat)) (en ck : Nat) (f : Nat → Option Value) (hd : ∀ x ∈ l, x.d.data.size ≤ 3000) (_ : l.length ≤ 40) (_ : bw.length ≤ 100) (_ : bw.length ≤ cb ∧ cb ≤ 9223372036854775807) (h1 : i < l.length) (t a0 : Int) (raw : Bool) (d : ByteArray) (hx : l[i] = ⟨t, a0, raw, d⟩) (u : UInt8) (us : Bl) (r : Wt) (R : List Wt) (x : UInt8) (xs : Bl) (hus : us.length + 1 ≤ 70000) (hxs : xs.length + 1 ≤ 3000) (hRl : R.length ≤ 40) : CW Try.prog 0 2 (2 + (Try.f7.ntmps - 2)) none (codeAt (loopAt Try.f7 0) [1, 0, 1, 1, 1, 1]) (bkF l c bw cb i T en ck (u :: us) (r :: R) (x :: xs) f) (stepK Try.prog 0 2 (2 + (Try.f7.ntmps - 2)) none (bkE l c bw cb i T en ck (u :: (us ++ x :: xs)) (r :: (R ++ [(us.length + 1, xs.length + 1, (⟨t, a0, raw, d⟩ : A6))])))) := by
 have hpl : plainL (l.flatMap layA6.g) = true := zAa layA6.g layA6.plain _
 obtain ⟨dom, cell, row, hsh, hdl⟩ := factB hd i h1 hx
 have hdl : (bs d).length ≤ 3000 := hdl
 have hsh : shortB d = true := hsh
 have h1s : (Try.prog.types[5]).size = 1 := by kernel_rfl
 have hby : (Try.prog.types[5]).bytes = 1 := by kernel_rfl
 have i1s : (Try.prog.types[3]).size = 1 := by kernel_rfl
 have i8s : (Try.prog.types[3]).bytes = 8 := by kernel_rfl
 have hsz : (Try.prog.types[46]).size = 4 := by kernel_rfl
 have hab : (Try.prog.types[46]).bytes ≤ 1000 := Nat.le_of_ble_eq_true (by kernel_rfl)
 refine zAo tbBk [0, 8] 2 _ none mixed _ _ _ ?_
 refine And.intro (by rw [i1s, i8s]; simp only [Bool.and_eq_true, decide_eq_true_eq]; exact ⟨⟨⟨⟨⟨⟨rfl, rfl⟩, Nat.ble_eq_true_of_le (by simp)⟩, rfl⟩, (by omega)⟩, (by omega)⟩, Nat.ble_eq_true_of_le (by simp)⟩) ?_
 refine And.intro (by rw [i1s, i8s]; simp only [Bool.and_eq_true, decide_eq_true_eq]; exact ⟨⟨⟨⟨⟨⟨rfl, rfl⟩, Nat.ble_eq_true_of_le (by simp)⟩, rfl⟩, (by omega)⟩, (by omega)⟩, Nat.ble_eq_true_of_le (by simp)⟩) ?_
 refine ifK (fun _ => ?_) (fun h2 => absurd (dom.symm.trans h2) (by decide))
 refine Exists.intro t (Exists.intro a0 (Exists.intro raw (Exists.intro d (And.intro row ?_))))
 have hfl : ((r :: R).flatMap acV).length = (R.length + 1) * 4 := zLo (r :: R)
 have hml : (R.length + 1 + 1) * (Try.prog.types[46]).bytes ≤ 140737488355328 := Nat.le_trans (Nat.mul_le_mul (show R.length + 1 + 1 ≤ 42 by omega) hab) (by decide)
 refine And.intro (by rw [hsz]; simp only [Bool.and_eq_true, decide_eq_true_eq]; exact ⟨⟨⟨⟨⟨⟨rfl, rfl⟩, Nat.ble_eq_true_of_le (by rw [hfl]; exact Nat.le_refl _)⟩, rfl⟩, hml⟩, (by omega)⟩, Nat.ble_eq_true_of_le (by rw [hfl]; simp)⟩) ?_
 have hlenR : R.length + 1 + 1 = (R ++ [(us.length + 1, xs.length + 1, (⟨t, a0, raw, d⟩ : A6))]).length + 1 := by simp
 have hat : List.take ((R.length + 1) * (Try.prog.types[3]).size) ((r :: R).map atV) ++ [atV (us.length + 1, xs.length + 1, (⟨t, a0, raw, d⟩ : A6))] = (r :: (R ++ [(us.length + 1, xs.length + 1, (⟨t, a0, raw, d⟩ : A6))])).map atV := by rw [i1s, Nat.mul_one, List.take_of_length_le (by simp)]; simp
 have hst : List.take ((R.length + 1) * (Try.prog.types[3]).size) ((r :: R).map szV) ++ [szV (us.length + 1, xs.length + 1, (⟨t, a0, raw, d⟩ : A6))] = (r :: (R ++ [(us.length + 1, xs.length + 1, (⟨t, a0, raw, d⟩ : A6))])).map szV := by rw [i1s, Nat.mul_one, List.take_of_length_le (by simp)]; simp
 have hct : List.take ((R.length + 1) * (Try.prog.types[46]).size) ((r :: R).flatMap acV) ++ acV (us.length + 1, xs.length + 1, (⟨t, a0, raw, d⟩ : A6)) = (r :: (R ++ [(us.length + 1, xs.length + 1, (⟨t, a0, raw, d⟩ : A6))])).flatMap acV := by rw [hsz, List.take_of_length_le (by rw [hfl]; exact Nat.le_refl _)]; simp
 refine Exists.intro ((x :: xs).map byV) (And.intro (zLc (l := x :: xs) h1s rfl) ?_)
 have hone : oneL ((x :: xs).map byV) = true := oneB _
 refine And.intro (by rw [h1s, hby]; simp only [Bool.and_eq_true, decide_eq_true_eq]; exact ⟨⟨⟨⟨⟨⟨rfl, rfl⟩, Nat.ble_eq_true_of_le (by simp)⟩, hone⟩, (by omega)⟩, (by omega)⟩, Nat.ble_eq_true_of_le (by simp)⟩) ?_
 have hlenb : us.length + 1 + (xs.length + 1) = (us ++ x :: xs).length + 1 := by simp; omega
 have hcells : List.take ((us.length + 1) * (Try.prog.types[5]).size) ((u :: us).map byV) ++ (x :: xs).map byV = (u :: (us ++ x :: xs)).map byV := by rw [h1s, Nat.mul_one, List.take_of_length_le (by simp)]; simp
 exact rcq [2, 3, 15, 10, 12, 14] ⟨⟨_, rfl, .sl _ _ _ _ _ rfl⟩, ⟨_, rfl, .sl _ _ _ _ _ rfl⟩, ⟨_, rfl, .bool _⟩, ⟨_, rfl, .ptr _ _ _ rfl⟩, ⟨_, rfl, by show RV _ (.slice _ (us.length + 1 + (xs.length + 1)) U) _; rw [hlenb]; exact .sl _ _ _ _ _ rfl⟩, ⟨_, rfl, by show RV _ (.slice _ (R.length + 1 + 1) U) _; rw [hlenR]; exact .sl _ _ _ _ _ rfl⟩, ⟨_, rfl, by show RV _ (.slice _ (R.length + 1 + 1) U) _; rw [hlenR]; exact .sl _ _ _ _ _ rfl⟩, ⟨_, rfl, by show RV _ (.slice _ (R.length + 1 + 1) U) _; rw [hlenR]; exact .sl _ _ _ _ _ rfl⟩, ⟨_, rfl, .int _ _⟩, trivial⟩ ⟨bpo (hpl), bpo (byV_plain bw), ⟨by decide, _, rfl, zAh _ _⟩, ⟨by decide, _, rfl, zAc 2 2 (by exact rfl) _⟩, ⟨by decide, _, rfl, zAw hcells (byV_plain _)⟩, ⟨by decide, _, rfl, zAw hat (zAe _)⟩, ⟨by decide, _, rfl, zAw hst (zAf _)⟩, ⟨by decide, _, rfl, zAw hct (zAd _)⟩, trivial⟩ .nil
theorem bki_00 (l : List A6) (c : Nat) (bw : Bl) (cb i : Nat) (T : List (Bl × Nat)) (en ck : Nat) (f : Nat → Option Value) (hd : ∀ x ∈ l, x.d.data.size ≤ 3000) (hl40 : l.length ≤ 40) (_ : bw.length ≤ 100) (_ : bw.length ≤ cb ∧ cb ≤ 9223372036854775807) (h1 : i < l.length) (t a0 : Int) (raw : Bool) (d : ByteArray) (hx : l[i] = ⟨t, a0, raw, d⟩) : CW Try.prog 0 2 (2 + (Try.f7.ntmps - 2)) none (codeAt (loopAt Try.f7 0) [1, 1]) (bkE l c bw cb i T en ck [] [] f) (stepK Try.prog 0 2 (2 + (Try.f7.ntmps - 2)) none (bkE l c bw cb (i + 1) T en ck [] [])) := by
 have hpl : plainL (l.flatMap layA6.g) = true := zAa layA6.g layA6.plain _
 obtain ⟨dom, cell, row, hsh, hdl⟩ := factB hd i h1 hx
 have hdl : (bs d).length ≤ 3000 := hdl
 have hsh : shortB d = true := hsh
 refine zAo tbBk [0] 2 _ none mixed _ _ _ ?_
 exact rcq [2, 3] ⟨⟨_, rfl, .sl _ _ _ _ _ rfl⟩, ⟨_, rfl, .sl _ _ _ _ _ rfl⟩, ⟨_, rfl, .bool _⟩, ⟨_, rfl, .ptr _ _ _ rfl⟩, ⟨_, rfl, zAb 8 rfl⟩, ⟨_, rfl, zAb 8 rfl⟩, ⟨_, rfl, zAb 8 rfl⟩, ⟨_, rfl, zAb 8 rfl⟩, zAn rfl (by rw [wrapN (by omega) (by omega)]; omega), trivial⟩ ⟨bpo (hpl), bpo (byV_plain bw), ⟨by decide, _, rfl, zAh _ _⟩, ⟨by decide, _, rfl, zAc 2 2 (by exact rfl) _⟩, trivial⟩ .nil
theorem bki_01 (l : List A6) (c : Nat) (bw : Bl) (cb i : Nat) (T : List (Bl × Nat)) (en ck : Nat) (f : Nat → Option Value) (hd : ∀ x ∈ l, x.d.data.size ≤ 3000) (hl40 : l.length ≤ 40) (_ : bw.length ≤ 100) (_ : bw.length ≤ cb ∧ cb ≤ 9223372036854775807) (h1 : i < l.length) (t a0 : Int) (raw : Bool) (d : ByteArray) (hx : l[i] = ⟨t, a0, raw, d⟩) (r : Wt) (R : List Wt) : CW Try.prog 0 2 (2 + (Try.f7.ntmps - 2)) none (codeAt (loopAt Try.f7 0) [1, 1]) (bkE l c bw cb i T en ck [] (r :: R) f) (stepK Try.prog 0 2 (2 + (Try.f7.ntmps - 2)) none (bkE l c bw cb (i + 1) T en ck [] (r :: R))) := by
 have hpl : plainL (l.flatMap layA6.g) = true := zAa layA6.g layA6.plain _
 obtain ⟨dom, cell, row, hsh, hdl⟩ := factB hd i h1 hx
 have hdl : (bs d).length ≤ 3000 := hdl
 have hsh : shortB d = true := hsh
 refine zAo tbBk [0] 2 _ none mixed _ _ _ ?_
 exact rcq [2, 3, 4, 5, 6] ⟨⟨_, rfl, .sl _ _ _ _ _ rfl⟩, ⟨_, rfl, .sl _ _ _ _ _ rfl⟩, ⟨_, rfl, .bool _⟩, ⟨_, rfl, .ptr _ _ _ rfl⟩, ⟨_, rfl, zAb 8 rfl⟩, ⟨_, rfl, .sl _ _ _ _ _ rfl⟩, ⟨_, rfl, .sl _ _ _ _ _ rfl⟩, ⟨_, rfl, .sl _ _ _ _ _ rfl⟩, zAn rfl (by rw [wrapN (by omega) (by omega)]; omega), trivial⟩ ⟨bpo (hpl), bpo (byV_plain bw), ⟨by decide, _, rfl, zAh _ _⟩, ⟨by decide, _, rfl, zAc 2 2 (by exact rfl) _⟩, bpo (zAe (r :: R)), bpo (zAf (r :: R)), bpo (zAd (r :: R)), trivial⟩ .nil
theorem bki_11 (l : List A6) (c : Nat) (bw : Bl) (cb i : Nat) (T : List (Bl × Nat)) (en ck : Nat) (f : Nat → Option Value) (hd : ∀ x ∈ l, x.d.data.size ≤ 3000) (hl40 : l.length ≤ 40) (_ : bw.length ≤ 100) (_ : bw.length ≤ cb ∧ cb ≤ 9223372036854775807) (h1 : i < l.length) (t a0 : Int) (raw : Bool) (d : ByteArray) (hx : l[i] = ⟨t, a0, raw, d⟩) (u : UInt8) (us : Bl) (r : Wt) (R : List Wt) : CW Try.prog 0 2 (2 + (Try.f7.ntmps - 2)) none (codeAt (loopAt Try.f7 0) [1, 1]) (bkE l c bw cb i T en ck (u :: us) (r :: R) f) (stepK Try.prog 0 2 (2 + (Try.f7.ntmps - 2)) none (bkE l c bw cb (i + 1) T en ck (u :: us) (r :: R))) := by
 have hpl : plainL (l.flatMap layA6.g) = true := zAa layA6.g layA6.plain _
 obtain ⟨dom, cell, row, hsh, hdl⟩ := factB hd i h1 hx
 have hdl : (bs d).length ≤ 3000 := hdl
 have hsh : shortB d = true := hsh
 refine zAo tbBk [0] 2 _ none mixed _ _ _ ?_
 exact rcq [2, 3, 4, 5, 6, 7] ⟨⟨_, rfl, .sl _ _ _ _ _ rfl⟩, ⟨_, rfl, .sl _ _ _ _ _ rfl⟩, ⟨_, rfl, .bool _⟩, ⟨_, rfl, .ptr _ _ _ rfl⟩, ⟨_, rfl, .sl _ _ _ _ _ rfl⟩, ⟨_, rfl, .sl _ _ _ _ _ rfl⟩, ⟨_, rfl, .sl _ _ _ _ _ rfl⟩, ⟨_, rfl, .sl _ _ _ _ _ rfl⟩, zAn rfl (by rw [wrapN (by omega) (by omega)]; omega), trivial⟩ ⟨bpo (hpl), bpo (byV_plain bw), ⟨by decide, _, rfl, zAh _ _⟩, ⟨by decide, _, rfl, zAc 2 2 (by exact rfl) _⟩, bpo (byV_plain (u :: us)), bpo (zAe (r :: R)), bpo (zAf (r :: R)), bpo (zAd (r :: R)), trivial⟩ .nil
end Go.Proofs.Ytjdecbfjpkpepaa
namespace Go.Proofs.Ytjdecbfjpkpepaa
open Go Go.RowKit
theorem cw_cont {P : Program} {g0 k0 nt : Nat} {rd : Option Nat} {id : Nat} {a b : Code} {s : Fs} {s2 : (Nat → Option Value) → Fs} (h : CW P g0 k0 nt rd a s (fun x s1 => x = .exit id ∧ ∃ f, RcM P g0 k0 nt rd s1 (s2 f))) : CW P g0 k0 nt rd (.block id (.seq a b)) s (stepK P g0 k0 nt rd s2) := fun h1 h2 => by
 obtain ⟨x, s', h3, rfl, f, hr⟩ := h h1 h2
 exact ⟨_, s', zJn rfl (zMq (by simp) h3), by simp only [Nat.beq_refl, cond_true]; exact ⟨f, hr⟩⟩
theorem bkxg (l : List A6) (c : Nat) (bw : Bl) (cb i : Nat) (T : List (Bl × Nat)) (en ck : Nat) (f : Nat → Option Value) (hd : ∀ x ∈ l, x.d.data.size ≤ 3000) (hl40 : l.length ≤ 40) (hbw : bw.length ≤ 100) (hcb : bw.length ≤ cb ∧ cb ≤ 9223372036854775807) (h1 : i < l.length) (t a0 : Int) (raw : Bool) (d : ByteArray) (hx : l[i] = ⟨t, a0, raw, d⟩) (b : Bl) (Rs : List Wt) (hsh : b ≠ [] → Rs ≠ []) : CW Try.prog 0 2 (2 + (Try.f7.ntmps - 2)) none (codeAt (loopAt Try.f7 0) [0]) (bkE l c bw cb i T en ck b Rs f) (stepK Try.prog 0 2 (2 + (Try.f7.ntmps - 2)) none (bkE l c bw cb i T en ck b Rs)) := by
 cases b with
 | nil => cases Rs with
  | nil => exact bkx_00 l c bw cb i T en ck f hd hl40 hbw hcb h1 t a0 raw d hx 
  | cons r R => exact bkx_01 l c bw cb i T en ck f hd hl40 hbw hcb h1 t a0 raw d hx _ _ 
 | cons u us => cases Rs with
  | nil => exact absurd rfl (hsh (List.cons_ne_nil _ _))
  | cons r R => exact bkx_11 l c bw cb i T en ck f hd hl40 hbw hcb h1 t a0 raw d hx _ _ _ _ 
theorem bkig (l : List A6) (c : Nat) (bw : Bl) (cb i : Nat) (T : List (Bl × Nat)) (en ck : Nat) (f : Nat → Option Value) (hd : ∀ x ∈ l, x.d.data.size ≤ 3000) (hl40 : l.length ≤ 40) (hbw : bw.length ≤ 100) (hcb : bw.length ≤ cb ∧ cb ≤ 9223372036854775807) (h1 : i < l.length) (t a0 : Int) (raw : Bool) (d : ByteArray) (hx : l[i] = ⟨t, a0, raw, d⟩) (b : Bl) (Rs : List Wt) (hsh : b ≠ [] → Rs ≠ []) : CW Try.prog 0 2 (2 + (Try.f7.ntmps - 2)) none (codeAt (loopAt Try.f7 0) [1, 1]) (bkE l c bw cb i T en ck b Rs f) (stepK Try.prog 0 2 (2 + (Try.f7.ntmps - 2)) none (bkE l c bw cb (i + 1) T en ck b Rs)) := by
 cases b with
 | nil => cases Rs with
  | nil => exact bki_00 l c bw cb i T en ck f hd hl40 hbw hcb h1 t a0 raw d hx 
  | cons r R => exact bki_01 l c bw cb i T en ck f hd hl40 hbw hcb h1 t a0 raw d hx _ _ 
 | cons u us => cases Rs with
  | nil => exact absurd rfl (hsh (List.cons_ne_nil _ _))
  | cons r R => exact bki_11 l c bw cb i T en ck f hd hl40 hbw hcb h1 t a0 raw d hx _ _ _ _ 
theorem bkyg (l : List A6) (c : Nat) (bw : Bl) (cb i : Nat) (T : List (Bl × Nat)) (en ck : Nat) (f : Nat → Option Value) (hd : ∀ x ∈ l, x.d.data.size ≤ 3000) (hl40 : l.length ≤ 40) (hbw : bw.length ≤ 100) (hcb : bw.length ≤ cb ∧ cb ≤ 9223372036854775807) (h1 : i < l.length) (t a0 : Int) (raw : Bool) (d : ByteArray) (hx : l[i] = ⟨t, a0, raw, d⟩) (b : Bl) (Rs : List Wt) (hsh : b ≠ [] → Rs ≠ []) (hck : checkD t (bs d) = 0) (hbl : b.length ≤ 60000) : CW Try.prog 0 2 (2 + (Try.f7.ntmps - 2)) none (codeAt (loopAt Try.f7 0) [1, 0, 0]) (bkE l c bw cb i T en ck b Rs f) (stepK Try.prog 0 2 (2 + (Try.f7.ntmps - 2)) none (bkE l c bw cb i T en ck b Rs)) := by
 cases b with
 | nil => cases Rs with
  | nil => exact bky_100 l c bw cb i T en ck f hd hl40 hbw hcb h1 t a0 raw d hx hck
  | cons r R => exact bky_101 l c bw cb i T en ck f hd hl40 hbw hcb h1 t a0 raw d hx _ _ hck
 | cons u us => cases Rs with
  | nil => exact absurd rfl (hsh (List.cons_ne_nil _ _))
  | cons r R => exact bky_111 l c bw cb i T en ck f hd hl40 hbw hcb h1 t a0 raw d hx _ _ _ _ hck hbl
theorem bkyn (l : List A6) (c : Nat) (bw : Bl) (cb i : Nat) (T : List (Bl × Nat)) (en ck : Nat) (f : Nat → Option Value) (hd : ∀ x ∈ l, x.d.data.size ≤ 3000) (hl40 : l.length ≤ 40) (hbw : bw.length ≤ 100) (hcb : bw.length ≤ cb ∧ cb ≤ 9223372036854775807) (h1 : i < l.length) (t a0 : Int) (raw : Bool) (d : ByteArray) (hx : l[i] = ⟨t, a0, raw, d⟩) (b : Bl) (Rs : List Wt) (hsh : b ≠ [] → Rs ≠ []) (hno : ¬ (checkD t (bs d) = 0 ∧ b.length ≤ 60000)) : CW Try.prog 0 2 (2 + (Try.f7.ntmps - 2)) none (codeAt (loopAt Try.f7 0) [1, 0, 0]) (bkE l c bw cb i T en ck b Rs f) (fun x s1 => x = .exit 1 ∧ ∃ f, RcM Try.prog 0 2 (2 + (Try.f7.ntmps - 2)) none s1 (bkE l c bw cb i T en ck b Rs f)) := by
 cases b with
 | nil => cases Rs with
  | nil => exact bky_000 l c bw cb i T en ck f hd hl40 hbw hcb h1 t a0 raw d hx (fun h => hno ⟨h, Nat.zero_le _⟩)
  | cons r R => exact bky_001 l c bw cb i T en ck f hd hl40 hbw hcb h1 t a0 raw d hx _ _ (fun h => hno ⟨h, Nat.zero_le _⟩)
 | cons u us => cases Rs with
  | nil => exact absurd rfl (hsh (List.cons_ne_nil _ _))
  | cons r R => exact bky_011 l c bw cb i T en ck f hd hl40 hbw hcb h1 t a0 raw d hx _ _ _ _ (by
   by_cases h : checkD t (bs d) = 0
   ·exact .inr (Nat.lt_of_not_le fun h2 => hno ⟨h, h2⟩)
   ·exact .inl h)
theorem bkzg (l : List A6) (c : Nat) (bw : Bl) (cb i : Nat) (T : List (Bl × Nat)) (en ck : Nat) (f : Nat → Option Value) (hd : ∀ x ∈ l, x.d.data.size ≤ 3000) (hl40 : l.length ≤ 40) (hbw : bw.length ≤ 100) (hcb : bw.length ≤ cb ∧ cb ≤ 9223372036854775807) (h1 : i < l.length) (t a0 : Int) (raw : Bool) (d : ByteArray) (hx : l[i] = ⟨t, a0, raw, d⟩) (b : Bl) (Rs : List Wt) (hsh : b ≠ [] → Rs ≠ []) (hbl : b.length ≤ 60000) (k : Nat) (hk : pickI a0 (IntKind.i64.wrap ((bw.length : Int) + 1)) = (k : Int)) (hkl : k ≤ bw.length) : CW Try.prog 0 2 (2 + (Try.f7.ntmps - 2)) none (codeAt (loopAt Try.f7 0) [1, 0, 1, 0]) (bkE l c bw cb i T en ck b Rs f) (stepK Try.prog 0 2 (2 + (Try.f7.ntmps - 2)) none (bkE l c bw cb i T en ck (b ++ bw.take k) Rs)) := by
 cases hW : bw.take k with
 | nil =>
  rw [List.append_nil]
  cases b with
  | nil => cases Rs with
   | nil => exact bkz_000 l c bw cb i T en ck f hd hl40 hbw hcb h1 t a0 raw d hx k hk hkl hW
   | cons r R => exact bkz_001 l c bw cb i T en ck f hd hl40 hbw hcb h1 t a0 raw d hx _ _ k hk hkl hW
  | cons u us => cases Rs with
   | nil => exact absurd rfl (hsh (List.cons_ne_nil _ _))
   | cons r R => exact bkz_011 l c bw cb i T en ck f hd hl40 hbw hcb h1 t a0 raw d hx _ _ _ _ hbl k hk hkl hW
 | cons v vs =>
  cases b with
  | nil => cases Rs with
   | nil => exact bkz_100 l c bw cb i T en ck f hd hl40 hbw hcb h1 t a0 raw d hx _ _ k hk hkl hW
   | cons r R => exact bkz_101 l c bw cb i T en ck f hd hl40 hbw hcb h1 t a0 raw d hx _ _ _ _ k hk hkl hW
  | cons u us => cases Rs with
   | nil => exact absurd rfl (hsh (List.cons_ne_nil _ _))
   | cons r R => exact bkz_111 l c bw cb i T en ck f hd hl40 hbw hcb h1 t a0 raw d hx _ _ _ _ hbl _ _ k hk hkl hW
theorem bkwg (l : List A6) (c : Nat) (bw : Bl) (cb i : Nat) (T : List (Bl × Nat)) (en ck : Nat) (f : Nat → Option Value) (hd : ∀ x ∈ l, x.d.data.size ≤ 3000) (hl40 : l.length ≤ 40) (hbw : bw.length ≤ 100) (hcb : bw.length ≤ cb ∧ cb ≤ 9223372036854775807) (h1 : i < l.length) (t a0 : Int) (raw : Bool) (d : ByteArray) (hx : l[i] = ⟨t, a0, raw, d⟩) (b : Bl) (Rs : List Wt) (X : Bl) (F : List (Bl × Nat)) (en' : Nat) (hg : goodT T) (hD : wrD en T (b.length : Int) t (bs d) = (0, X, F, en')) : CW Try.prog 0 2 (2 + (Try.f7.ntmps - 2)) none (codeAt (loopAt Try.f7 0) [1, 0, 1, 1, 0]) (bkE l c bw cb i T en ck b Rs f) (stepK Try.prog 0 2 (2 + (Try.f7.ntmps - 2)) none (bkF l c bw cb i (T ++ F) en' (ck + F.length) b Rs X)) := by
 cases b <;> cases Rs <;> cases X
 ·exact bkw_000 l c bw cb i T en ck f hd hl40 hbw hcb h1 t a0 raw d hx F en' hg hD
 ·exact bkw_001 l c bw cb i T en ck f hd hl40 hbw hcb h1 t a0 raw d hx _ _ F en' hg hD
 ·exact bkw_010 l c bw cb i T en ck f hd hl40 hbw hcb h1 t a0 raw d hx _ _ F en' hg hD
 ·exact bkw_011 l c bw cb i T en ck f hd hl40 hbw hcb h1 t a0 raw d hx _ _ _ _ F en' hg hD
 ·exact bkw_100 l c bw cb i T en ck f hd hl40 hbw hcb h1 t a0 raw d hx _ _ F en' hg hD
 ·exact bkw_101 l c bw cb i T en ck f hd hl40 hbw hcb h1 t a0 raw d hx _ _ _ _ F en' hg hD
 ·exact bkw_110 l c bw cb i T en ck f hd hl40 hbw hcb h1 t a0 raw d hx _ _ _ _ F en' hg hD
 ·exact bkw_111 l c bw cb i T en ck f hd hl40 hbw hcb h1 t a0 raw d hx _ _ _ _ _ _ F en' hg hD
theorem bkug (l : List A6) (c : Nat) (bw : Bl) (cb i : Nat) (T : List (Bl × Nat)) (en ck : Nat) (f : Nat → Option Value) (hd : ∀ x ∈ l, x.d.data.size ≤ 3000) (hl40 : l.length ≤ 40) (hbw : bw.length ≤ 100) (hcb : bw.length ≤ cb ∧ cb ≤ 9223372036854775807) (h1 : i < l.length) (t a0 : Int) (raw : Bool) (d : ByteArray) (hx : l[i] = ⟨t, a0, raw, d⟩) (b : Bl) (Rs : List Wt) (X : Bl) (hxl : X.length ≤ (bs d).length) : CW Try.prog 0 2 (2 + (Try.f7.ntmps - 2)) none (codeAt (loopAt Try.f7 0) [1, 0, 1, 1, 1, 0]) (bkF l c bw cb i T en ck b Rs X f) (stepK Try.prog 0 2 (2 + (Try.f7.ntmps - 2)) none (bkF l c bw cb i T en ck b Rs X)) := by
 cases b <;> cases Rs <;> cases X
 ·exact bku_000 l c bw cb i T en ck f hd hl40 hbw hcb h1 t a0 raw d hx 
 ·exact bku_001 l c bw cb i T en ck f hd hl40 hbw hcb h1 t a0 raw d hx _ _ hxl
 ·exact bku_010 l c bw cb i T en ck f hd hl40 hbw hcb h1 t a0 raw d hx _ _ 
 ·exact bku_011 l c bw cb i T en ck f hd hl40 hbw hcb h1 t a0 raw d hx _ _ _ _ hxl
 ·exact bku_100 l c bw cb i T en ck f hd hl40 hbw hcb h1 t a0 raw d hx _ _ 
 ·exact bku_101 l c bw cb i T en ck f hd hl40 hbw hcb h1 t a0 raw d hx _ _ _ _ hxl
 ·exact bku_110 l c bw cb i T en ck f hd hl40 hbw hcb h1 t a0 raw d hx _ _ _ _ 
 ·exact bku_111 l c bw cb i T en ck f hd hl40 hbw hcb h1 t a0 raw d hx _ _ _ _ _ _ hxl
theorem bksg (l : List A6) (c : Nat) (bw : Bl) (cb i : Nat) (T : List (Bl × Nat)) (en ck : Nat) (f : Nat → Option Value) (hd : ∀ x ∈ l, x.d.data.size ≤ 3000) (hl40 : l.length ≤ 40) (hbw : bw.length ≤ 100) (hcb : bw.length ≤ cb ∧ cb ≤ 9223372036854775807) (h1 : i < l.length) (t a0 : Int) (raw : Bool) (d : ByteArray) (hx : l[i] = ⟨t, a0, raw, d⟩) (b : Bl) (Rs : List Wt) (X : Bl) (hus : b.length ≤ 70000) (hxs : X.length ≤ 3000) (hRl : Rs.length ≤ 40) : CW Try.prog 0 2 (2 + (Try.f7.ntmps - 2)) none (codeAt (loopAt Try.f7 0) [1, 0, 1, 1, 1, 1]) (bkF l c bw cb i T en ck b Rs X f) (stepK Try.prog 0 2 (2 + (Try.f7.ntmps - 2)) none (bkE l c bw cb i T en ck (b ++ X) (Rs ++ [(b.length, X.length, (⟨t, a0, raw, d⟩ : A6))]))) := by
 cases b <;> cases Rs <;> cases X
 ·exact bks_000 l c bw cb i T en ck f hd hl40 hbw hcb h1 t a0 raw d hx 
 ·exact bks_001 l c bw cb i T en ck f hd hl40 hbw hcb h1 t a0 raw d hx _ _ hxs 
 ·exact bks_010 l c bw cb i T en ck f hd hl40 hbw hcb h1 t a0 raw d hx _ _ (Nat.le_trans (Nat.le_succ _) hRl)
 ·exact bks_011 l c bw cb i T en ck f hd hl40 hbw hcb h1 t a0 raw d hx _ _ _ _ hxs (Nat.le_trans (Nat.le_succ _) hRl)
 ·rw [List.append_nil]; exact bks_100 l c bw cb i T en ck f hd hl40 hbw hcb h1 t a0 raw d hx _ _ hus 
 ·exact bks_101 l c bw cb i T en ck f hd hl40 hbw hcb h1 t a0 raw d hx _ _ _ _ hus hxs 
 ·rw [List.append_nil]; exact bks_110 l c bw cb i T en ck f hd hl40 hbw hcb h1 t a0 raw d hx _ _ _ _ hus (Nat.le_trans (Nat.le_succ _) hRl)
 ·exact bks_111 l c bw cb i T en ck f hd hl40 hbw hcb h1 t a0 raw d hx _ _ _ _ _ _ hus hxs (Nat.le_trans (Nat.le_succ _) hRl)
def okB (b : Bl) (y : Wt) : Prop := ∀ C : Bl, (b ++ C).length < 9223372036854775807 → rdQ (b ++ C) (y.1 : Int) (y.2.1 : Int) y.2.2.t (bs y.2.2.d, 0, 0)
theorem okB.app {b : Bl} {y : Wt} (h : okB b y) (D : Bl) : okB (b ++ D) y := fun C hC => by
 rw [List.append_assoc] at hC ⊢; exact h (D ++ C) hC
structure BkI (i : Nat) (b : Bl) (Rs : List Wt) (T : List (Bl × Nat)) (en : Nat) : Prop where
 g : goodT T
 k : knowsN b T b.length
 e : en ≤ b.length
 bl : b.length ≤ 63200
 rl : Rs.length ≤ i
 sh : b ≠ [] → Rs ≠ []
 ok : ∀ y ∈ Rs, okB b y
theorem bk_body (l : List A6) (c : Nat) (bw : Bl) (cb i : Nat) (T : List (Bl × Nat)) (en ck : Nat) (f : Nat → Option Value) (hd : ∀ x ∈ l, x.d.data.size ≤ 3000) (hl40 : l.length ≤ 40) (hbw : bw.length ≤ 100) (hcb : bw.length ≤ cb ∧ cb ≤ 9223372036854775807) (h1 : i < l.length) (t a0 : Int) (raw : Bool) (d : ByteArray) (hx : l[i] = ⟨t, a0, raw, d⟩) (b : Bl) (Rs : List Wt) (hI : BkI i b Rs T en) : ∃ (T' : List (Bl × Nat)) (en' ck' : Nat) (b' : Bl) (Rs' : List Wt), BkI (i + 1) b' Rs' T' en' ∧ CW Try.prog 0 2 (2 + (Try.f7.ntmps - 2)) none (loopAt Try.f7 0) (bkE l c bw cb i T en ck b Rs f) (stepK Try.prog 0 2 (2 + (Try.f7.ntmps - 2)) none (bkE l c bw cb (i + 1) T' en' ck' b' Rs')) := by
 obtain ⟨hg, hK, he, hbl, hrl, hsh, hok⟩ := hI
 by_cases hgo : checkD t (bs d) = 0 ∧ b.length ≤ 60000
 rotate_left
 ·refine ⟨T, en, ck, b, Rs, ⟨hg, hK, he, hbl, by omega, hsh, hok⟩, ?_⟩
  refine zHn (bkE l c bw cb i T en ck b Rs) (bkxg l c bw cb i T en ck f hd hl40 hbw hcb h1 t a0 raw d hx b Rs hsh) (fun f => ?_)
  refine zHn (bkE l c bw cb i T en ck b Rs) ?_ (fun f => bkig l c bw cb i T en ck f hd hl40 hbw hcb h1 t a0 raw d hx b Rs hsh)
  exact cw_cont (bkyn l c bw cb i T en ck f hd hl40 hbw hcb h1 t a0 raw d hx b Rs hsh hgo)
 obtain ⟨hck, hb6⟩ := hgo
 obtain ⟨k, hk, hkl⟩ : ∃ k : Nat, pickI a0 (IntKind.i64.wrap ((bw.length : Int) + 1)) = (k : Int) ∧ k ≤ bw.length := by
  rw [wrapN (by omega) (by omega), pickI_of (by omega) (by omega)]
  have e1 := Int.emod_nonneg a0 (show ((bw.length : Int) + 1) ≠ 0 by omega)
  have e2 := Int.emod_lt_of_pos a0 (show 0 < ((bw.length : Int) + 1) by omega)
  exact ⟨(a0 % ((bw.length : Int) + 1)).toNat, by omega, by omega⟩
 obtain ⟨b1, hb1⟩ : ∃ b1, b ++ bw.take k = b1 := ⟨_, rfl⟩
 have hb1l : b1.length ≤ b.length + 100 := by rw [← hb1, List.length_append, List.length_take]; omega
 have hbb1 : b.length ≤ b1.length := by rw [← hb1, List.length_append]; omega
 have hK1 : knowsN b1 T b1.length := by rw [← hb1]; exact (hK.app _).mono (by rw [hb1]; exact hbb1)
 have hdl : (bs d).length ≤ 3000 := (factB hd i h1 hx).2.2.2.2
 obtain ⟨⟨e, X, F, en'⟩, hD⟩ : ∃ R, wrD en T (b1.length : Int) t (bs d) = R := ⟨_, rfl⟩
 obtain ⟨he0, hXl, hen', hback⟩ := wrD_back hck (show en ≤ b1.length by omega) (by omega) hD
 subst he0
 have hgF : goodT (T ++ F) := by have := wrD_good (en := en) (a := (b1.length : Int)) (t := t) (l := bs d) hg; rw [hD] at this; exact this
 have hcut : ∀ C : Bl, ((b1 ++ X ++ C).drop b1.length).take X.length = X := fun C => by rw [List.append_assoc, List.drop_left, List.take_left]
 have hbk : ∀ C : Bl, (b1 ++ X ++ C).length < 9223372036854775807 → rdQ (b1 ++ X ++ C) (b1.length : Int) (X.length : Int) t (bs d, 0, 0) ∧ knowsN (b1 ++ X ++ C) (T ++ F) (b1.length + X.length) := fun C hC =>
  hback (b1 ++ X ++ C) (by simp) hC (hcut C) (by rw [List.append_assoc]; exact hK1.app _)
 refine ⟨T ++ F, en', ck + F.length, b1 ++ X, Rs ++ [(b1.length, X.length, (⟨t, a0, raw, d⟩ : A6))], ⟨hgF, ?_, by rw [List.length_append]; exact hen', by rw [List.length_append]; omega, by simp; omega, fun _ => by simp, fun y hy => ?_⟩, ?_⟩
 ·have := (hbk [] (by simp; omega)).2
  rw [List.append_nil] at this
  rw [List.length_append]; exact this
 ·rcases List.mem_append.1 hy with hy | hy
  ·have := hok y hy
   rw [← hb1]
   exact (this.app _).app _
  ·simp only [List.mem_singleton] at hy
   subst hy
   exact fun C hC => (hbk C hC).1
 ·refine zHn (bkE l c bw cb i T en ck b Rs) (bkxg l c bw cb i T en ck f hd hl40 hbw hcb h1 t a0 raw d hx b Rs hsh) (fun f => ?_)
  refine zHn (bkE l c bw cb i (T ++ F) en' (ck + F.length) (b1 ++ X) (Rs ++ [(b1.length, X.length, (⟨t, a0, raw, d⟩ : A6))])) ?_ (fun f => bkig l c bw cb i (T ++ F) en' (ck + F.length) f hd hl40 hbw hcb h1 t a0 raw d hx _ _ (fun _ => by simp))
  refine cw_blk _ ?_
  refine zHn (bkE l c bw cb i T en ck b Rs) (bkyg l c bw cb i T en ck f hd hl40 hbw hcb h1 t a0 raw d hx b Rs hsh hck hb6) (fun f => ?_)
  refine zHn (bkE l c bw cb i T en ck b1 Rs) (by rw [← hb1]; exact bkzg l c bw cb i T en ck f hd hl40 hbw hcb h1 t a0 raw d hx b Rs hsh hb6 k hk hkl) (fun f => ?_)
  refine zHn (bkF l c bw cb i (T ++ F) en' (ck + F.length) b1 Rs X) (bkwg l c bw cb i T en ck f hd hl40 hbw hcb h1 t a0 raw d hx b1 Rs X F en' hg hD) (fun f => ?_)
  refine zHn (bkF l c bw cb i (T ++ F) en' (ck + F.length) b1 Rs X) (bkug l c bw cb i (T ++ F) en' (ck + F.length) f hd hl40 hbw hcb h1 t a0 raw d hx b1 Rs X hXl) (fun f => ?_)
  exact bksg l c bw cb i (T ++ F) en' (ck + F.length) f hd hl40 hbw hcb h1 t a0 raw d hx b1 Rs X (by omega) (by omega) (by omega)
end Go.Proofs.Ytjdecbfjpkpepaa
namespace Go.Proofs.Ytjdecbfjpkpepaa
open Go Go.RowKit
theorem RcM.trans {P : Program} {g0 k0 nt : Nat} {rd : Option Nat} {s s1 s2 : Fs} (h : RcM P g0 k0 nt rd s s1) (k : RcM P g0 k0 nt rd s1 s2) : RcM P g0 k0 nt rd s s2 := by
 obtain ⟨a1, a2, a3⟩ := h
 obtain ⟨b1, b2, b3⟩ := k
 refine ⟨b1, a2.trans b2, fun E a w hf => ?_⟩
 obtain ⟨E1, h1, h2⟩ := a3 E a w hf
 obtain ⟨E2, k1, k2⟩ := b3 E1 a w h1
 exact ⟨E2, k1, h2.trans k2 b2⟩
theorem seesB_bk {H : Tr AObj} {b : Nat} {t : TypeId} {z : Nat} {C : List Value} (h : (H.get b).bind (AObj.as t z) = some C) : seesB H b t z C := h
theorem rc_nil {P : Program} {g0 k0 nt d k b : Nat} {rd : Option Nat} {lv : List (Nat × Value)} {f : Nat → Option Value} {H : Tr AObj} {n : Nat} {W : List Nat} {df : List ADf} (hk : k0 ≤ n) (hb : H.get b ≠ none) :
  RcM P g0 k0 nt rd ⟨slots d ((k, .slice none 0 0) :: lv) f, H, n, W, df⟩ ⟨slots d ((k, .slice (some ⟨b, 0, none⟩) 0 0) :: lv) f, H, n, W, df⟩ := by
 refine ⟨hk, .refl _ _, fun E a w hf => ⟨E, ⟨⟨hf.tr.1, fun t => ?_⟩, hf.hr, hf.lw, hf.df, hf.gl, hf.rd, hf.top⟩, .refl _ _ _ _⟩⟩
 have h := hf.tr.2 t
 have hd : E.dom b := hf.hr.live hb
 have h : VR E (((slots d ((k, .slice none 0 0) :: lv) f).get t).getD undef) (a.tmps.getD t undef) := h
 show VR E (((slots d ((k, .slice (some ⟨b, 0, none⟩) 0 0) :: lv) f).get t).getD undef) (a.tmps.getD t undef)
 generalize a.tmps.getD t undef = z at h ⊢
 unfold slots at h ⊢
 rw [zFr] at h ⊢
 split at h
 ·rename_i ht
  rw [if_pos ht]
  unfold lkp at h ⊢
  cases hq : k.beq (0 + 1 * t) with
  | false => rw [hq] at h; exact h
  | true =>
   rw [hq] at h
   simp only [cond_true, Option.getD_some] at h ⊢
   cases h with
   | snil => exact .se b 0 0 none hd (fun _ => rfl) (.inr rfl)
 ·rename_i ht
  rw [if_neg ht]; exact h
def bk2_0 (bw : Bl) (r : Wt) (R : List Wt) (k : Nat) (f : Nat → Option Value) : Fs := ⟨slots 8 [(7, .slice (some ⟨1, 0, none⟩) 0 0), (5, .bool true), (8, .slice (some ⟨2, 0, none⟩) (R.length + 1) U), (9, .slice (some ⟨3, 0, none⟩) (R.length + 1) U), (10, .slice (some ⟨4, 0, none⟩) (R.length + 1) U), (14, .int .i64 (k : Int))] f, heap 3 [(1, .win (bw.map byV) 1), (2, .cells ((r :: R).map atV) 3), (3, .cells ((r :: R).map szV) 3), (4, .cells ((r :: R).flatMap acV) 46)], 5, [], []⟩
theorem bk2_step0 (bw : Bl) (r : Wt) (R : List Wt) (k : Nat) (f : Nat → Option Value) (hus : ([] : Bl).length ≤ 70000) (hok : ∀ y ∈ r :: R, okB ([] : Bl) y) (hRl : (r :: R).length ≤ 40) (hk : k < (r :: R).length) : CW Try.prog 0 2 (2 + (Try.f7.ntmps - 2)) none (loopAt Try.f7 1) (bk2_0 bw r R k f) (fun x s1 => x = .normal ∧ ∃ f', RcM Try.prog 0 2 (2 + (Try.f7.ntmps - 2)) none s1 (bk2_0 bw r R (k + 1) f')) := by
 have i1s : (Try.prog.types[3]).size = 1 := by kernel_rfl
 have hsz : (Try.prog.types[46]).size = 4 := by kernel_rfl
 obtain ⟨Y, hY⟩ : ∃ Y, (r :: R)[k] = Y := ⟨_, rfl⟩
 have hlen : (r :: R).length = R.length + 1 := rfl
 have hk40 : k < 40 := by omega
 have dom : inI (k : Int) (R.length + 1) = true := by simp [inI]; omega
 have cat : ((r :: R).map atV)[0 + ((k : Int)).toNat * (Try.prog.types[3]).size]? = some (.int .i64 (Y.1 : Int)) := by rw [i1s, Int.toNat_natCast, Nat.zero_add, Nat.mul_one, List.getElem?_map, List.getElem?_eq_getElem hk, hY]; rfl
 have csz : ((r :: R).map szV)[0 + ((k : Int)).toNat * (Try.prog.types[3]).size]? = some (.int .i64 (Y.2.1 : Int)) := by rw [i1s, Int.toNat_natCast, Nat.zero_add, Nat.mul_one, List.getElem?_map, List.getElem?_eq_getElem hk, hY]; rfl
 have cac : ∀ j, j < 4 → ((r :: R).flatMap acV)[0 + ((k : Int)).toNat * (Try.prog.types[46]).size + j]? = (acV Y)[j]? := fun j hj => by
  have h2 := (zEj acV 4 (fun _ => rfl) (r :: R) k hk).2
  rw [hY] at h2
  rw [hsz, Int.toNat_natCast, Nat.zero_add, ← h2, List.getElem?_take_of_lt hj, List.getElem?_drop]
 have hb := hok Y (by rw [← hY]; exact List.getElem_mem hk) [] (by rw [List.append_nil]; omega)
 rw [List.append_nil] at hb
 obtain ⟨ya, yz, t, a0, raw, d⟩ := Y
 refine zAo tbBk [1, 2, 3, 4] 2 _ none mixed _ _ _ ?_
 refine ifK (fun _ => ?_) (fun g => absurd (show ((k : Nat) : Int) < ((R.length + 1 : Nat) : Int) by omega) (of_decide_eq_false g))
 refine And.intro (by kernel_rfl) ?_
 refine ifK (fun _ => ?_) (fun h2 => absurd (dom.symm.trans h2) (by decide))
 refine Exists.intro (ya : Int) (And.intro cat ?_)
 refine ifK (fun _ => ?_) (fun h2 => absurd (dom.symm.trans h2) (by decide))
 refine Exists.intro (yz : Int) (And.intro csz ?_)
 refine ifK (fun _ => ?_) (fun h2 => absurd (dom.symm.trans h2) (by decide))
 refine Exists.intro t (And.intro (cac 0 (by decide)) ?_)
 refine Exists.intro ((⟨1, 0, 0, 0, bw⟩ : RdB), (ya : Int), (yz : Int), t) (And.intro ⟨rfl, ⟨seesB_bk (by kernel_rfl), Nat.zero_le _⟩, Nat.zero_le _, .inr ⟨Nat.le_refl _, Nat.zero_le _⟩⟩ ?_)
 intro y hq
 have eB : RdB.B ⟨1, 0, 0, 0, bw⟩ = ([] : Bl) := rfl
 have hq : rdQ (RdB.B ⟨1, 0, 0, 0, bw⟩) (ya : Int) (yz : Int) t y := hq
 rw [eB] at hq
 have := rdQ_det hq hb
 subst this
 refine ifK (fun _ => ?_) (fun h2 => absurd (dom.symm.trans h2) (by decide))
 refine Exists.intro d (And.intro (cac 3 (by decide)) ?_)
 refine ifK (fun g => by simp [bs] at g) (fun _ => ?_)
 exact ⟨rfl, rcq [2, 3, 4] ⟨⟨_, rfl, .sl _ _ _ _ _ rfl⟩, ⟨_, rfl, .bool _⟩, ⟨_, rfl, .sl _ _ _ _ _ rfl⟩, ⟨_, rfl, .sl _ _ _ _ _ rfl⟩, ⟨_, rfl, .sl _ _ _ _ _ rfl⟩, zAn rfl (by rw [wrapN (by omega) (by omega)]; omega), trivial⟩ ⟨bpo (byV_plain bw), bpo (zAe (r :: R)), bpo (zAf (r :: R)), bpo (zAd (r :: R)), trivial⟩ .nil⟩
def bk2_1 (u : UInt8) (us : Bl) (r : Wt) (R : List Wt) (k : Nat) (f : Nat → Option Value) : Fs := ⟨slots 8 [(7, .slice (some ⟨2, 0, none⟩) (us.length + 1) U), (5, .bool true), (8, .slice (some ⟨3, 0, none⟩) (R.length + 1) U), (9, .slice (some ⟨4, 0, none⟩) (R.length + 1) U), (10, .slice (some ⟨5, 0, none⟩) (R.length + 1) U), (14, .int .i64 (k : Int))] f, heap 3 [(2, .cells ((u :: us).map byV) 5), (3, .cells ((r :: R).map atV) 3), (4, .cells ((r :: R).map szV) 3), (5, .cells ((r :: R).flatMap acV) 46)], 6, [], []⟩
theorem bk2_step1 (u : UInt8) (us : Bl) (r : Wt) (R : List Wt) (k : Nat) (f : Nat → Option Value) (hus : (u :: us).length ≤ 70000) (hok : ∀ y ∈ r :: R, okB (u :: us) y) (hRl : (r :: R).length ≤ 40) (hk : k < (r :: R).length) : CW Try.prog 0 2 (2 + (Try.f7.ntmps - 2)) none (loopAt Try.f7 1) (bk2_1 u us r R k f) (fun x s1 => x = .normal ∧ ∃ f', RcM Try.prog 0 2 (2 + (Try.f7.ntmps - 2)) none s1 (bk2_1 u us r R (k + 1) f')) := by
 have i1s : (Try.prog.types[3]).size = 1 := by kernel_rfl
 have hsz : (Try.prog.types[46]).size = 4 := by kernel_rfl
 obtain ⟨Y, hY⟩ : ∃ Y, (r :: R)[k] = Y := ⟨_, rfl⟩
 have hlen : (r :: R).length = R.length + 1 := rfl
 have hk40 : k < 40 := by omega
 have dom : inI (k : Int) (R.length + 1) = true := by simp [inI]; omega
 have cat : ((r :: R).map atV)[0 + ((k : Int)).toNat * (Try.prog.types[3]).size]? = some (.int .i64 (Y.1 : Int)) := by rw [i1s, Int.toNat_natCast, Nat.zero_add, Nat.mul_one, List.getElem?_map, List.getElem?_eq_getElem hk, hY]; rfl
 have csz : ((r :: R).map szV)[0 + ((k : Int)).toNat * (Try.prog.types[3]).size]? = some (.int .i64 (Y.2.1 : Int)) := by rw [i1s, Int.toNat_natCast, Nat.zero_add, Nat.mul_one, List.getElem?_map, List.getElem?_eq_getElem hk, hY]; rfl
 have cac : ∀ j, j < 4 → ((r :: R).flatMap acV)[0 + ((k : Int)).toNat * (Try.prog.types[46]).size + j]? = (acV Y)[j]? := fun j hj => by
  have h2 := (zEj acV 4 (fun _ => rfl) (r :: R) k hk).2
  rw [hY] at h2
  rw [hsz, Int.toNat_natCast, Nat.zero_add, ← h2, List.getElem?_take_of_lt hj, List.getElem?_drop]
 have hb := hok Y (by rw [← hY]; exact List.getElem_mem hk) [] (by rw [List.append_nil]; omega)
 rw [List.append_nil] at hb
 obtain ⟨ya, yz, t, a0, raw, d⟩ := Y
 refine zAo tbBk [2, 3, 4, 5] 2 _ none mixed _ _ _ ?_
 refine ifK (fun _ => ?_) (fun g => absurd (show ((k : Nat) : Int) < ((R.length + 1 : Nat) : Int) by omega) (of_decide_eq_false g))
 refine And.intro (by kernel_rfl) ?_
 refine ifK (fun _ => ?_) (fun h2 => absurd (dom.symm.trans h2) (by decide))
 refine Exists.intro (ya : Int) (And.intro cat ?_)
 refine ifK (fun _ => ?_) (fun h2 => absurd (dom.symm.trans h2) (by decide))
 refine Exists.intro (yz : Int) (And.intro csz ?_)
 refine ifK (fun _ => ?_) (fun h2 => absurd (dom.symm.trans h2) (by decide))
 refine Exists.intro t (And.intro (cac 0 (by decide)) ?_)
 refine Exists.intro ((⟨2, 0, us.length + 1, U, u :: us⟩ : RdB), (ya : Int), (yz : Int), t) (And.intro ⟨rfl, ⟨(zQl (show Tr.get _ 2 = some (AObj.cells ((u :: us).map byV) _) from rfl)), (by simp)⟩, (show us.length + 1 ≤ 1000000 by simp at hus; omega), .inl rfl⟩ ?_)
 intro y hq
 have eB : RdB.B ⟨2, 0, us.length + 1, U, u :: us⟩ = (u :: us) := (by show ((u :: us).drop 0).take (us.length + 1) = u :: us; rw [List.drop_zero]; exact List.take_of_length_le (by simp))
 have hq : rdQ (RdB.B ⟨2, 0, us.length + 1, U, u :: us⟩) (ya : Int) (yz : Int) t y := hq
 rw [eB] at hq
 have := rdQ_det hq hb
 subst this
 refine ifK (fun _ => ?_) (fun h2 => absurd (dom.symm.trans h2) (by decide))
 refine Exists.intro d (And.intro (cac 3 (by decide)) ?_)
 refine ifK (fun g => by simp [bs] at g) (fun _ => ?_)
 exact ⟨rfl, rcq [2, 3, 4, 5] ⟨⟨_, rfl, .sl _ _ _ _ _ rfl⟩, ⟨_, rfl, .bool _⟩, ⟨_, rfl, .sl _ _ _ _ _ rfl⟩, ⟨_, rfl, .sl _ _ _ _ _ rfl⟩, ⟨_, rfl, .sl _ _ _ _ _ rfl⟩, zAn rfl (by rw [wrapN (by omega) (by omega)]; omega), trivial⟩ ⟨bpo (byV_plain (u :: us)), bpo (zAe (r :: R)), bpo (zAf (r :: R)), bpo (zAd (r :: R)), trivial⟩ .nil⟩
end Go.Proofs.Ytjdecbfjpkpepaa
namespace Go.Proofs.Ytjdecbfjpkpepaa
open Go Go.RowKit
theorem rc_then {P : Program} {g0 k0 nt : Nat} {rd : Option Nat} {s : Fs} {S S' : (Nat → Option Value) → Fs} (k : ∀ f, RcM P g0 k0 nt rd (S f) (S' f)) (h : ∃ f, RcM P g0 k0 nt rd s (S f)) : ∃ f, RcM P g0 k0 nt rd s (S' f) := let ⟨f, hf⟩ := h; ⟨f, hf.trans (k f)⟩
def bkS (l : List A6) (c : Nat) (bw : Bl) (cb : Nat) (x : Nat × List (Bl × Nat) × Nat × Nat × Bl × List Wt) (f : Nat → Option Value) : Fs := bkE l c bw cb x.1 x.2.1 x.2.2.1 x.2.2.2.1 x.2.2.2.2.1 x.2.2.2.2.2 f
theorem back_fn (l : List A6) (c : Nat) (bw : Bl) (cb : Nat) (hcb : bw.length ≤ cb ∧ cb ≤ 9223372036854775807) : ∃ r, FnS Try.prog 0 7 [.slice (some ⟨0, 0, none⟩) l.length c, .slice (some ⟨1, 0, none⟩) bw.length cb] (heap 2 [(0, .win (l.flatMap layA6.g) layA6.k), (1, .win (bw.map byV) 1)]) 2 r ∧ ∃ H m wr, r = .ret (.bool true) H m wr ∧ ∀ k ∈ wr, 2 ≤ k := by
 have hpl : plainL (l.flatMap layA6.g) = true := zAa layA6.g layA6.plain _
 refine zEe mixed tbBk [0] Try.func7 (c := bodyOf Try.f7) (by kernel_rfl) ?_
 refine Exists.intro (⟨0, c, [], l, []⟩, ()) (And.intro ⟨rfl, ⟨(by show _ = some ([] ++ l.flatMap layA6.g ++ []); rw [List.append_nil]; rfl), rfl, rfl⟩, trivial⟩ ?_)
 refine ifK (fun g => ?_) (fun g => ?_)
 ·exact ⟨_, _, _, rfl, zAr rfl⟩
 obtain ⟨hl40, hd⟩ := longA_no g
 have hl40 : l.length ≤ 40 := hl40
 refine ifK (fun g2 => ?_) (fun g2 => ?_)
 ·exact ⟨_, _, _, rfl, zAr rfl⟩
 have hbw : bw.length ≤ 100 := by have := of_decide_eq_false g2; omega
 refine zCn (bkS l c bw cb) (fun x => l.length - x.1) (fun x => x.1 ≤ l.length ∧ BkI x.1 x.2.2.2.2.1 x.2.2.2.2.2 x.2.1 x.2.2.1) (0, [], 0, 0, [], []) ⟨Nat.zero_le _, ⟨⟨List.nodup_nil, fun p hp => by cases hp⟩, (fun t k h => by cases h), Nat.le_refl _, Nat.zero_le _, Nat.le_refl _, (fun h => absurd rfl h), (fun y hy => by cases hy)⟩⟩
  (rcq [2, 3] ⟨⟨_, rfl, .sl _ _ _ _ _ rfl⟩, ⟨_, rfl, .sl _ _ _ _ _ rfl⟩, ⟨_, rfl, .bool _⟩, ⟨_, rfl, .ptr _ _ _ rfl⟩, ⟨_, rfl, zAb 8 rfl⟩, ⟨_, rfl, zAb 8 rfl⟩, ⟨_, rfl, zAb 8 rfl⟩, ⟨_, rfl, zAb 8 rfl⟩, ⟨_, rfl, .int _ _⟩, trivial⟩ ⟨bpo (hpl), bpo (byV_plain bw), ⟨by decide, _, rfl, zAh [] 0⟩, ⟨by decide, _, rfl, zAc 2 2 (by exact rfl) 0⟩, trivial⟩ .nil) ?_
 rintro ⟨i, T, en, ck, b, Rs⟩ f ⟨hi, hI⟩
 have hi : i ≤ l.length := hi
 have hI : BkI i b Rs T en := hI
 by_cases h1 : i < l.length
 ·obtain ⟨x, hx⟩ : ∃ x, l[i] = x := ⟨_, rfl⟩
  obtain ⟨t, a0, raw, d⟩ := x
  obtain ⟨T', en', ck', b', Rs', hI', hcw⟩ := bk_body l c bw cb i T en ck f hd hl40 hbw hcb h1 t a0 raw d hx b Rs hI
  refine hcw.mono fun x s1 hk => ?_
  cases x with
  | normal => obtain ⟨f', hr⟩ := hk; exact ⟨(i + 1, T', en', ck', b', Rs'), ⟨h1, hI'⟩, (by show l.length - (i + 1) < l.length - i; omega), f', hr⟩
  | _ => exact hk.elim
 have e1 : i = l.length := by omega
 have hRl : Rs.length ≤ 40 := Nat.le_trans hI.rl (by omega)
 have hbl : b.length ≤ 70000 := Nat.le_trans hI.bl (by decide)
 have hok := hI.ok
 have hsh := hI.sh
 clear hI
 subst e1
 cases Rs with
 | nil =>
  cases b with
  | cons u us => exact absurd rfl (hsh (List.cons_ne_nil _ _))
  | nil =>
   refine zAo tbBk [0] 2 _ none mixed _ _ _ ?_
   refine ifK (fun g => absurd (of_decide_eq_true g) (by omega)) (fun _ => ?_)
   refine And.intro rfl (zAl (rcq [] (d := 8) (d2 := 0) (lv := [(5, .bool true), (10, .slice none 0 0)]) (bs := []) (W := []) (m := 2) (df := []) ⟨⟨_, rfl, .bool _⟩, ⟨_, rfl, zAb 8 rfl⟩, trivial⟩ trivial .nil) (fun f => ?_))
   refine LW.round ?_
   refine zAo tbBk [0] 2 _ none mixed _ _ _ ?_
   exact ⟨_, _, _, rfl, zAr rfl⟩
 | cons r R =>
  cases b with
  | nil =>
   refine zAo tbBk [0] 2 _ none mixed _ _ _ ?_
   refine ifK (fun g => absurd (of_decide_eq_true g) (by omega)) (fun _ => ?_)
   refine And.intro rfl (zAl (rc_then (S := fun f => ⟨slots 8 [(7, .slice none 0 0), (5, .bool true), (8, .slice (some ⟨2, 0, none⟩) (R.length + 1) U), (9, .slice (some ⟨3, 0, none⟩) (R.length + 1) U), (10, .slice (some ⟨4, 0, none⟩) (R.length + 1) U)] f, heap 3 [(1, .win (bw.map byV) 1), (2, .cells ((r :: R).map atV) 3), (3, .cells ((r :: R).map szV) 3), (4, .cells ((r :: R).flatMap acV) 46)], 5, [], []⟩) (fun f => rc_nil (k := 7) (b := 1) (by decide) (by rw [show (heap 3 [(1, .win (bw.map byV) 1), (2, .cells ((r :: R).map atV) 3), (3, .cells ((r :: R).map szV) 3), (4, .cells ((r :: R).flatMap acV) 46)]).get 1 = some (AObj.win (bw.map byV) 1) from rfl]; simp)) (rcq [4, 5, 6] (d := 8) (d2 := 3) (lv := [(7, .slice none 0 0), (5, .bool true), (8, .slice (some ⟨2, 0, none⟩) (R.length + 1) U), (9, .slice (some ⟨3, 0, none⟩) (R.length + 1) U), (10, .slice (some ⟨4, 0, none⟩) (R.length + 1) U)]) (bs := [(1, .win (bw.map byV) 1), (2, .cells ((r :: R).map atV) 3), (3, .cells ((r :: R).map szV) 3), (4, .cells ((r :: R).flatMap acV) 46)]) (W := []) (m := 5) (df := []) ⟨⟨_, rfl, zAb 8 rfl⟩, ⟨_, rfl, .bool _⟩, ⟨_, rfl, .sl _ _ _ _ _ rfl⟩, ⟨_, rfl, .sl _ _ _ _ _ rfl⟩, ⟨_, rfl, .sl _ _ _ _ _ rfl⟩, trivial⟩ ⟨bpo (byV_plain bw), bpo (zAe (r :: R)), bpo (zAf (r :: R)), bpo (zAd (r :: R)), trivial⟩ .nil)) (fun f => ?_))
   refine zCn (fun k f => bk2_0 bw r R k f) (fun k => R.length + 1 - k) (fun k => k ≤ R.length + 1) 0 (Nat.zero_le _) (rcq [2, 3, 4] ⟨⟨_, rfl, .sl _ _ _ _ _ rfl⟩, ⟨_, rfl, .bool _⟩, ⟨_, rfl, .sl _ _ _ _ _ rfl⟩, ⟨_, rfl, .sl _ _ _ _ _ rfl⟩, ⟨_, rfl, .sl _ _ _ _ _ rfl⟩, ⟨_, rfl, .int _ _⟩, trivial⟩ ⟨bpo (byV_plain bw), bpo (zAe (r :: R)), bpo (zAf (r :: R)), bpo (zAd (r :: R)), trivial⟩ .nil) ?_
   intro k f hk
   by_cases hk1 : k < R.length + 1
   ·refine (bk2_step0 bw r R k f hbl hok hRl hk1).mono fun x s1 h => ?_
    obtain ⟨rfl, f', hr⟩ := h
    exact ⟨k + 1, hk1, (by show R.length + 1 - (k + 1) < R.length + 1 - k; omega), f', hr⟩
   ·refine zAo tbBk [0] 2 _ none mixed _ _ _ ?_
    refine ifK (fun g => absurd (show ((k : Nat) : Int) < ((R.length + 1 : Nat) : Int) from of_decide_eq_true g) (by omega)) (fun _ => ?_)
    refine And.intro rfl (zAl (rcq [] (d := 8) (d2 := 0) (lv := [(5, .bool true)]) (bs := []) (W := []) (m := 2) (df := []) ⟨⟨_, rfl, .bool _⟩, trivial⟩ trivial .nil) (fun f => ?_))
    exact ⟨_, _, _, rfl, zAr rfl⟩
  | cons u us =>
   refine zAo tbBk [0] 2 _ none mixed _ _ _ ?_
   refine ifK (fun g => absurd (of_decide_eq_true g) (by omega)) (fun _ => ?_)
   refine And.intro rfl (zAl (rcq [4, 5, 6, 7] (d := 8) (d2 := 3) (lv := [(7, .slice (some ⟨2, 0, none⟩) (us.length + 1) U), (5, .bool true), (8, .slice (some ⟨3, 0, none⟩) (R.length + 1) U), (9, .slice (some ⟨4, 0, none⟩) (R.length + 1) U), (10, .slice (some ⟨5, 0, none⟩) (R.length + 1) U)]) (bs := [(2, .cells ((u :: us).map byV) 5), (3, .cells ((r :: R).map atV) 3), (4, .cells ((r :: R).map szV) 3), (5, .cells ((r :: R).flatMap acV) 46)]) (W := []) (m := 6) (df := []) ⟨⟨_, rfl, .sl _ _ _ _ _ rfl⟩, ⟨_, rfl, .bool _⟩, ⟨_, rfl, .sl _ _ _ _ _ rfl⟩, ⟨_, rfl, .sl _ _ _ _ _ rfl⟩, ⟨_, rfl, .sl _ _ _ _ _ rfl⟩, trivial⟩ ⟨bpo (byV_plain (u :: us)), bpo (zAe (r :: R)), bpo (zAf (r :: R)), bpo (zAd (r :: R)), trivial⟩ .nil) (fun f => ?_))
   refine zCn (fun k f => bk2_1 u us r R k f) (fun k => R.length + 1 - k) (fun k => k ≤ R.length + 1) 0 (Nat.zero_le _) (rcq [2, 3, 4, 5] ⟨⟨_, rfl, .sl _ _ _ _ _ rfl⟩, ⟨_, rfl, .bool _⟩, ⟨_, rfl, .sl _ _ _ _ _ rfl⟩, ⟨_, rfl, .sl _ _ _ _ _ rfl⟩, ⟨_, rfl, .sl _ _ _ _ _ rfl⟩, ⟨_, rfl, .int _ _⟩, trivial⟩ ⟨bpo (byV_plain (u :: us)), bpo (zAe (r :: R)), bpo (zAf (r :: R)), bpo (zAd (r :: R)), trivial⟩ .nil) ?_
   intro k f hk
   by_cases hk1 : k < R.length + 1
   ·refine (bk2_step1 u us r R k f hbl hok hRl hk1).mono fun x s1 h => ?_
    obtain ⟨rfl, f', hr⟩ := h
    exact ⟨k + 1, hk1, (by show R.length + 1 - (k + 1) < R.length + 1 - k; omega), f', hr⟩
   ·refine zAo tbBk [0] 2 _ none mixed _ _ _ ?_
    refine ifK (fun g => absurd (show ((k : Nat) : Int) < ((R.length + 1 : Nat) : Int) from of_decide_eq_true g) (by omega)) (fun _ => ?_)
    refine And.intro rfl (zAl (rcq [] (d := 8) (d2 := 0) (lv := [(5, .bool true)]) (bs := []) (W := []) (m := 2) (df := []) ⟨⟨_, rfl, .bool _⟩, trivial⟩ trivial .nil) (fun f => ?_))
    exact ⟨_, _, _, rfl, zAr rfl⟩
end Go.Proofs.Ytjdecbfjpkpepaa
namespace Go.Proofs.Ytjdecbfjpkpepaa
open Go Go.RowKit
end Go.Proofs.Ytjdecbfjpkpepaa
namespace Go.Proofs.Ytjdecbfjpkpepaa
open Go Go.RowKit
end Go.Proofs.Ytjdecbfjpkpepaa
namespace Go.Proofs.Ytjdecbfjpkpepaa
open Go Go.RowKit
end Go.Proofs.Ytjdecbfjpkpepaa
