/- DERIVED. Texts put together: Mix, Ints, O1, O2, O3, O5, O6, O7, O4, W1, O8, O9, Pick, Flags, Aw9. -/
import Derived.Test.YtknpgjeclmadkaaProg
import Derived.Test.YtknpgjeclmadkaaZ14
set_option maxRecDepth 1000000
set_option maxHeartbeats 32000000
namespace Go.Proofs.Ytknpgjeclmadkaa
open Go Go.RowKit
theorem mixed : Try.prog.follows .mixedOrders = true := by kernel_rfl
end Go.Proofs.Ytknpgjeclmadkaa
namespace Go.Proofs.Ytknpgjeclmadkaa
open Go Go.RowKit
def Ct.int1 (f : FuncId) (out : Int → Int) (ok : ∀ x, ∃ H m wr, FnS Try.prog 0 f [.int .i64 x] .e 0 (.ret (.int .i64 (out x)) H m wr)) : Ct Try.prog 0 where
 f := f
 res l H n := match l with | [.int .i64 x] => .ret (.int .i64 (out x)) H n [] | _ => .bad "arguments" []
 ok l H n := by
  split
  ·rename_i x
   obtain ⟨_, _, _, h⟩ := ok x
   exact zBy h rfl rfl H n
  ·trivial
 ck l H n K := match l with | [.int .i64 x] => K (.ret (.int .i64 (out x)) H n []) | _ => False
 imp l H n K h := by
  split at h
  ·exact h
  ·exact h.elim
def Ct.yes (f : FuncId) (ok : ∀ w : World, 0 < w.heap.size → Calls Try.prog f #[] w fun e w' => e = .returned (.bool true) ∧ Below w.heap.size w w') : Ct Try.prog 0 where
 f := f
 res l H n := match l with | [] => .ret (.bool true) H n [] | _ => .bad "arguments" []
 ok l H n := by
  split
  ·exact zKy ok rfl rfl H n
  ·trivial
 ck l H n K := match l with | [] => K (.ret (.bool true) H n []) | _ => False
 imp l H n K h := by
  split at h
  ·exact h
  ·exact h.elim
end Go.Proofs.Ytknpgjeclmadkaa
namespace Go.Proofs.Ytknpgjeclmadkaa
open Go Go.RowKit
noncomputable def tbO1 : Tb Try.prog 0 := tbOf mixed []
noncomputable def sAt (C : List Value) (r e : Value) (f : Nat → Option Value) : Fs := ⟨slots 7 [(4, r), (5, .pointer (some ⟨1, 0, none⟩))] f, heap 2 [(0, .win C 1), (1, .cells [e] 33)], 2, [], [.call 94 [.pointer (some ⟨1, 0, none⟩)] []]⟩
noncomputable def rAt (tb : Tb Try.prog 0) (x : Ex) (C : List Value) (r : Int) (f : Nat → Option Value) : Res := endR tb Try.f85 x (sAt C (.int .u8 r) (.int .i64 0) f)
def panB : Ex := .pan [(.chan (some 8), false)]
theorem at_ret (tb : Tb Try.prog 0) (R : Res → Prop) (C : List Value) (b : Int) (f : Nat → Option Value) : fnK tb Try.f85 R .ret (sAt C (.int .u8 b) (.int .i64 0) f) = R (.ret (.tuple #[.int .u8 b, .int .i64 0]) (resH (rAt tb .ret C b f)) (resN (rAt tb .ret C b f)) []) := by kernel_rfl
theorem at_pan (tb : Tb Try.prog 0) (R : Res → Prop) (C : List Value) (f : Nat → Option Value) : fnK tb Try.f85 R panB (sAt C (.int .u8 0) (.int .i64 0) f) = R (.ret (.tuple #[.int .u8 0, .int .i64 4]) (resH (rAt tb panB C 0 f)) (resN (rAt tb panB C 0 f)) [1]) := by kernel_rfl
abbrev Bl := List UInt8
def byV (b : UInt8) : Value := .int .u8 (b.toNat : Int)
theorem zAi (l : Bl) : plainL (l.map byV) = true := by simp [plainL, plainV, byV]
def atOut (l : Bl) (o n : Nat) (i : Int) : Value := bif inI i n then .tuple #[byV (l.getD (o + i.toNat) 0), .int .i64 0] else .tuple #[.int .u8 0, .int .i64 4]
theorem zNw (l : Bl) (o n : Nat) (i : Int) : plainV 8 (atOut l o n i) = true := by unfold atOut; cases inI i n <;> rfl
theorem at_fn (l : Bl) (o n c : Nat) (i : Int) (h : o + n ≤ l.length) : ∃ r, FnS Try.prog 0 85 [.slice (some ⟨0, o, none⟩) n c, .int .i64 i] (heap 1 [(0, .win (l.map byV) 1)]) 1 r ∧ ∃ H m wr, r = .ret (atOut l o n i) H m wr ∧ ∀ k ∈ wr, 1 ≤ k := by
 refine fn_sxR mixed tbO1 [0] Try.func85 (c := bodyOf Try.f85) (by kernel_rfl) ?_
 unfold atOut
 refine ifK (fun h1 => ?_) (fun h1 => ?_)
 ·rw [h1]
  have hi : 0 ≤ i ∧ i < n := by simpa [inI] using h1
  have hlt : o + i.toNat < l.length := by omega
  refine Exists.intro ((l.getD (o + i.toNat) 0).toNat : Int) (And.intro ?_ ?_)
  ·show (l.map byV)[o + i.toNat * 1]? = _
   rw [Nat.mul_one]
   simp [List.getElem?_eq_getElem hlt, byV]
  ·refine And.intro rfl (zAc (rcq [1] (d := 7) (d2 := 2) (lv := [(4, byV (l.getD (o + i.toNat) 0)), (5, .pointer (some ⟨1, 0, none⟩))]) (bs := [(0, .win (l.map byV) 1), (1, .cells [.int .i64 0] 33)]) (W := []) (m := 2) (df := [.call 94 [.pointer (some ⟨1, 0, none⟩)] []]) ⟨⟨_, rfl, .int _ _⟩, ⟨_, rfl, .ptr _ _ _ rfl⟩, trivial⟩ ⟨bpo (zAi l), bpo rfl, trivial⟩ (.fn _ _ _ _ _ _ _ (.cons _ _ _ _ (.ptr _ _ _ rfl) .nil) .nil .nil)) (fun f => ?_))
   refine Eq.mpr (at_ret _ _ _ _ f) ?_
   exact ⟨_, _, _, rfl, fun k hk => by cases hk⟩
 ·rw [h1]
  refine And.intro rfl (zAc (rcq [1] (d := 7) (d2 := 2) (lv := [(4, .int .u8 0), (5, .pointer (some ⟨1, 0, none⟩))]) (bs := [(0, .win (l.map byV) 1), (1, .cells [.int .i64 0] 33)]) (W := []) (m := 2) (df := [.call 94 [.pointer (some ⟨1, 0, none⟩)] []]) ⟨⟨_, rfl, .int _ _⟩, ⟨_, rfl, .ptr _ _ _ rfl⟩, trivial⟩ ⟨bpo (zAi l), bpo rfl, trivial⟩ (.fn _ _ _ _ _ _ _ (.cons _ _ _ _ (.ptr _ _ _ rfl) .nil) .nil .nil)) (fun f => ?_))
  refine Eq.mpr (at_pan _ _ _ f) ?_
  exact ⟨_, _, _, rfl, fun k hk => by simp at hk; omega⟩
theorem zAd {H : Tr AObj} {b : Nat} {t : TypeId} {z : Nat} {C : List Value} (h : H.get b = some (.cells C t)) : seesB H b t z C := by
 unfold seesB; rw [h]; simp [AObj.as]
structure RdB where
 b : Nat
 o : Nat
 n : Nat
 c : Nat
 l : Bl
def RdB.sl (x : RdB) : Value := .slice (some ⟨x.b, x.o, none⟩) x.n x.c
def RdB.at (x : RdB) (H : Tr AObj) : Prop := seesB H x.b 5 1 (x.l.map byV) ∧ x.o + x.n ≤ x.l.length
theorem map_byV {a b : Bl} (h : a.map byV = b.map byV) : a = b := by
 refine List.map_inj_right (fun x y e => ?_) |>.1 h
 simp only [byV, Value.int.injEq, true_and] at e
 exact UInt8.toNat_inj.1 (by omega)
theorem RdB.uniq {x y : RdB} {H : Tr AObj} (h : x.sl = y.sl) (hx : x.at H) (hy : y.at H) : x = y := by
 obtain ⟨b, o, n, c, l⟩ := x
 obtain ⟨b', o', n', c', l'⟩ := y
 simp only [RdB.sl, Value.slice.injEq, Option.some.injEq, Addr.mk.injEq, and_true] at h
 obtain ⟨⟨rfl, rfl⟩, rfl, rfl⟩ := h
 rw [show l = l' from map_byV (seesB.uniq hx.1 hy.1)]
theorem byte_size : (Try.prog.info? 5).map (·.size) = some 1 := by kernel_rfl
theorem zJa {b : Nat} {H : Tr AObj} {C : List Value} (h : seesB H b 5 1 C) (hp : plainL C = true) : CallB Try.prog [b] H (heap 1 [(0, .win C 1)]) := callB_one h hp byte_size
noncomputable def CtR.rdB (f : FuncId) (Y : Type) (args : Y → List Value) (out : RdB → Y → Value) (pre : RdB → Y → Prop) (hp : ∀ y, plainL (args y) = true) (hv : ∀ x y, plainV 8 (out x y) = true) (inj : ∀ y z, args y = args z → y = z)
  (ok : ∀ (l : Bl) (o n c : Nat) (y : Y), o + n ≤ l.length → pre ⟨0, o, n, c, l⟩ y → ∃ H m wr, FnS Try.prog 0 f (.slice (some ⟨0, o, none⟩) n c :: args y) (heap 1 [(0, .win (l.map byV) 1)]) 1 (.ret (out ⟨0, o, n, c, l⟩ y) H m wr) ∧ ∀ k ∈ wr, 1 ≤ k)
  (hb : ∀ b o n c l y, out ⟨b, o, n, c, l⟩ y = out ⟨0, o, n, c, l⟩ y) (hpb : ∀ b o n c l y, pre ⟨b, o, n, c, l⟩ y → pre ⟨0, o, n, c, l⟩ y)
  (tr : RdB → Y → (Value → Prop) → Prop := fun x y F => F (out x y)) (trOk : ∀ x y F, tr x y F → F (out x y) := by exact fun _ _ _ h => h) : Ct Try.prog 0 :=
 CtR.ct { f, tr := fun x H n K => tr x.1 x.2 fun v => K (.ret v H n []), trOk := fun x H n K h => trOk _ _ _ h, X := RdB × Y, pre := fun x a H _ => a = x.1.sl :: args x.2 ∧ x.1.at H ∧ pre x.1 x.2, out := fun x H n => .ret (out x.1 x.2) H n [],
          ok := fun ⟨⟨b, o, n, c, l⟩, y⟩ a H m ⟨h1, h2, h3⟩ => by
           subst h1
           obtain ⟨H', m', wr, hF, hw⟩ := ok l o n c y h2.2 (hpb _ _ _ _ _ _ h3)
           show CallOK Try.prog 0 f _ H m (.ret (out ⟨b, o, n, c, l⟩ y) H m [])
           rw [hb]
           exact zHj [b] hF hw zOi (.cons _ _ _ _ (.sl _ _ _ _ _ rfl) (zCv (hp y))) (zJa h2.1 (zAi l)) (hv _ _),
          uniq := fun ⟨x, y⟩ ⟨x', y'⟩ a H m ⟨h1, h2, _⟩ ⟨k1, k2, _⟩ => by
           rw [h1] at k1
           simp only [List.cons.injEq] at k1
           rw [RdB.uniq k1.1 h2 k2, inj _ _ k1.2] }
noncomputable def CtR.rdN (f : FuncId) (Y : Type) (args : Y → List Value) (out : RdB → Y → Nat → Value × Option (List Value × TypeId)) (pre : RdB → Y → Prop) (hp : ∀ y, plainL (args y) = true) (inj : ∀ y z, args y = args z → y = z)
  (ok : ∀ (l : Bl) (o n c : Nat) (y : Y), o + n ≤ l.length → pre ⟨0, o, n, c, l⟩ y → ∃ v H m wr, FnS Try.prog 0 f (.slice (some ⟨0, o, none⟩) n c :: args y) (heap 1 [(0, .win (l.map byV) 1)]) 1 (.ret v H m wr) ∧ (∀ k ∈ wr, 1 ≤ k) ∧
   ((∀ n', out ⟨0, o, n, c, l⟩ y n' = (v, none) ∧ plainV 8 v = true) ∨ ∃ b xs e, H.get b = some (.cells xs e) ∧ 1 ≤ b ∧ b < JJ ∧ plainL xs = true ∧ ∀ b0 n', (out ⟨0, o, n, c, l⟩ y n').2 = some (xs, e) ∧ RV (tau [b0] [b] n') v (out ⟨0, o, n, c, l⟩ y n').1))
  (hb : ∀ b o n c l y, out ⟨b, o, n, c, l⟩ y = out ⟨0, o, n, c, l⟩ y) (hpb : ∀ b o n c l y, pre ⟨b, o, n, c, l⟩ y → pre ⟨0, o, n, c, l⟩ y)
  (tr : RdB → Y → Tr AObj → Nat → (Res → Prop) → Prop := fun x y H n K => K (resNew (out x y n) H n)) (trOk : ∀ x y H n K, tr x y H n K → K (resNew (out x y n) H n) := by exact fun _ _ _ _ _ h => h) : Ct Try.prog 0 :=
 CtR.ct { f, tr := fun x H n K => tr x.1 x.2 H n K, trOk := fun x H n K h => trOk _ _ _ _ _ h, X := RdB × Y, pre := fun x a H _ => a = x.1.sl :: args x.2 ∧ x.1.at H ∧ pre x.1 x.2, out := fun x H n => resNew (out x.1 x.2 n) H n,
          ok := fun ⟨⟨b, o, n, c, l⟩, y⟩ a H m ⟨h1, h2, h3⟩ => by
           subst h1
           obtain ⟨v, H', m', wr, hF, hw, hres⟩ := ok l o n c y h2.2 (hpb _ _ _ _ _ _ h3)
           show TOK Try.prog 0 (.call f (RdB.sl _ :: args y)) _ (resNew (out ⟨b, o, n, c, l⟩ y m) H m)
           rw [hb]
           rcases hres with hr | ⟨b', xs, e, r1, r2, r3, r4, r5⟩
           ·rw [(hr m).1]
            exact zHj [b] hF hw zOi (.cons _ _ _ _ (.sl _ _ _ _ _ rfl) (zCv (hp y))) (zJa h2.1 (zAi l)) (hr m).2
           ·have e1 : ∀ n', out ⟨0, o, n, c, l⟩ y n' = ((out ⟨0, o, n, c, l⟩ y n').1, some (xs, e)) := fun n' => by rw [← (r5 0 n').1]
            rw [e1 m]
            exact zLa (fun n' => (out ⟨0, o, n, c, l⟩ y n').1) [b] hF hw zOi (.cons _ _ _ _ (.sl _ _ _ _ _ rfl) (zCv (hp y))) (zJa h2.1 (zAi l)) r1 r2 r3 r4 (fun n' => (r5 b n').2),
          uniq := fun ⟨x, y⟩ ⟨x', y'⟩ a H m ⟨h1, h2, _⟩ ⟨k1, k2, _⟩ => by
           rw [h1] at k1
           simp only [List.cons.injEq] at k1
           rw [RdB.uniq k1.1 h2 k2, inj _ _ k1.2] }
noncomputable def ct_at : Ct Try.prog 0 := CtR.rdB 85 Int (fun i => [.int .i64 i]) (fun x i => atOut x.l x.o x.n i) (fun _ _ => True) (fun _ => rfl) (fun _ _ => zNw _ _ _ _) (fun y z h => by simpa using h)
 (fun l o n c i h _ => by obtain ⟨r, hF, H, m, wr, rfl, hw⟩ := at_fn l o n c i h; exact ⟨H, m, wr, hF, hw⟩) (fun _ _ _ _ _ _ => rfl) (fun _ _ _ _ _ _ h => h)
 (fun x i F => brK (inI i x.n) (F (.tuple #[.int .u8 ((x.l.getD (x.o + i.toNat) 0).toNat : Int), .int .i64 0])) (F (.tuple #[.int .u8 0, .int .i64 4])))
 (fun x i F h => by
  unfold atOut
  cases hb : inI i x.n with
  | true => rw [hb] at h; exact h
  | false => rw [hb] at h; exact h)
end Go.Proofs.Ytknpgjeclmadkaa
namespace Go.Proofs.Ytknpgjeclmadkaa
open Go Go.RowKit
noncomputable def tbO2 : Tb Try.prog 0 := tbOf mixed [ct_at]
theorem wrapM {x : Int} (h1 : 0 ≤ x) (h2 : x < 9223372036854775808) : IntKind.i64.wrap x = x := zQy (by omega) h2
theorem shl8 (a : Nat) (ha : a < 1099511627776) : shlI .i64 (a : Int) 8 = ((a * 256 : Nat) : Int) := by
 unfold shlI
 rw [show (2 : Int) ^ (min (8 : Int).toNat IntKind.i64.bits) = 256 from rfl, wrapM (by omega) (by omega)]; omega
theorem bvN (a : Nat) (h : a < 18446744073709551616) : (BitVec.ofInt IntKind.i64.bits (a : Int)).toNat = a := by
 have e : IntKind.i64.bits = 64 := rfl
 rw [BitVec.toNat_ofInt, e]; omega
theorem or_byte (a c : Nat) (ha : a < 1099511627776) (hc : c < 256) : bitsI .or .i64 (shlI .i64 (a : Int) 8) (c : Int) = ((a * 256 + c : Nat) : Int) := by
 rw [shl8 a ha]
 unfold bitsI
 simp only []
 have e : (BitVec.ofInt IntKind.i64.bits ((a * 256 : Nat) : Int) ||| BitVec.ofInt IntKind.i64.bits (c : Int)).toNat = a * 256 + c := by
  rw [BitVec.toNat_or, bvN _ (by omega), bvN _ (by omega)]
  have := Nat.shiftLeft_add_eq_or_of_lt (a := a) (b := c) (i := 8) (by omega)
  rw [Nat.shiftLeft_eq] at this
  exact this.symm
 rw [e, wrapM (by omega) (by omega)]
def beN (l : Bl) : Nat := l.foldl (fun n c => n * 256 + c.toNat) 0
theorem zKw (l : Bl) (c : UInt8) : beN (l ++ [c]) = beN l * 256 + c.toNat := by simp [beN]
theorem beN_lt (l : Bl) : beN l < 256 ^ l.length := by
 have : ∀ (m : Nat) (l : Bl), l.length = m → beN l < 256 ^ m := by
  intro m
  induction m with
  | zero => intro l h; rw [List.length_eq_zero_iff.1 h]; decide
  | succ m ih =>
   intro l h
   rcases List.eq_nil_or_concat l with rfl | ⟨i, c, rfl⟩
   ·simp at h
   ·rw [List.concat_eq_append] at h ⊢
    have := ih i (by simp at h; exact h)
    have := UInt8.toNat_lt c
    rw [zKw, Nat.pow_succ]; omega
 exact this _ l rfl
def getOut (l : Bl) (o n : Nat) (i : Int) (sz : Nat) : Value :=
 if i < 0 ∨ (n : Int) < i then .tuple #[.int .i64 0, .int .i64 0, .agg #[.int .i64 5, .int .i64 0]]
 else if i.toNat + sz ≤ n then .tuple #[.int .i64 (beN ((l.drop (o + i.toNat)).take sz) : Int), .int .i64 ((i.toNat + sz : Nat) : Int), .agg #[.int .i64 0, .int .i64 0]]
 else .tuple #[.int .i64 0, .int .i64 0, .agg #[.int .i64 4, .int .i64 (n : Int)]]
theorem zCr (l : Bl) (o n : Nat) (i : Int) (sz : Nat) : plainV 8 (getOut l o n i sz) = true := by
 unfold getOut
 split
 ·rfl
 ·split <;> rfl
theorem zEx (l : Bl) (o k : Nat) (h : o + k < l.length) : (l.drop o).take (k + 1) = (l.drop o).take k ++ [l.getD (o + k) 0] := by
 rw [List.take_succ_eq_append_getElem (by simp; omega)]
 simp [List.getD_eq_getElem?_getD, List.getElem?_eq_getElem h]
def getS (l : Bl) (o n c : Nat) (i : Int) (sz : Nat) (k : Nat) (f : Nat → Option Value) : Fs :=
 ⟨slots 7 [(0, .slice (some ⟨0, o, none⟩) n c), (1, .int .i64 i), (2, .int .i64 sz), (8, .pointer (some ⟨1, 0, none⟩)), (9, .int .i64 (beN ((l.drop (o + i.toNat)).take k) : Int)), (22, .int .i64 sz), (23, .int .i64 k)] f,
  heap 2 [(0, .win (l.map byV) 1), (1, .cells [.int .i64 0, .int .i64 0] 53)], 2, [], []⟩
theorem get_fn (l : Bl) (o n c : Nat) (i : Int) (sz : Nat) (h : o + n ≤ l.length) (hsz : sz ≤ 4) (hn : n ≤ 1000000000) : ∃ r, FnS Try.prog 0 74 [.slice (some ⟨0, o, none⟩) n c, .int .i64 i, .int .i64 sz] (heap 1 [(0, .win (l.map byV) 1)]) 1 r ∧ ∃ H m wr, r = .ret (getOut l o n i sz) H m wr ∧ ∀ k ∈ wr, 1 ≤ k := by
 refine zBk mixed tbO2 [0] Try.func74 (c := bodyOf Try.f74) (by kernel_rfl) ?_
 unfold getOut
 refine ifK (fun h1 => ?_) (fun h1 => ?_)
 ·rw [if_pos (.inl (of_decide_eq_true h1))]
  exact ⟨_, _, _, rfl, zBs rfl⟩
 have h1 := of_decide_eq_false h1
 refine ifK (fun h2 => ?_) (fun h2 => ?_)
 ·rw [if_pos (.inr (of_decide_eq_true h2))]
  exact ⟨_, _, _, rfl, zBs rfl⟩
 have h2 := of_decide_eq_false h2
 rw [if_neg (by omega)]
 refine zAv (fun k => getS l o n c i sz k) (fun k => sz - k) (fun k => k ≤ sz ∧ i.toNat + k ≤ n) 0 ⟨Nat.zero_le _, by omega⟩ (rcq [1] ⟨⟨_, rfl, .sl _ _ _ _ _ rfl⟩, ⟨_, rfl, .int _ _⟩, ⟨_, rfl, .int _ _⟩, ⟨_, rfl, .ptr _ _ _ rfl⟩, ⟨_, rfl, .int _ _⟩, ⟨_, rfl, .int _ _⟩, ⟨_, rfl, .int _ _⟩, trivial⟩ ⟨bpo (zAi l), bpo rfl, trivial⟩ .nil) ?_
 rintro k f ⟨hk, hin⟩
 refine zBe tbO2 [0] 1 _ none mixed _ _ _ ?_
 refine ifK (fun h3 => ?_) (fun h3 => ?_)
 ·have h3 : k < sz := by have := of_decide_eq_true h3; omega
  have e1 : IntKind.i64.wrap (i + (k : Nat)) = ((i.toNat + k : Nat) : Int) := by rw [wrapM (by omega) (by omega)]; omega
  refine Exists.intro (⟨0, o, n, c, l⟩, IntKind.i64.wrap (i + (k : Nat))) (And.intro ⟨rfl, ⟨rfl, h⟩, trivial⟩ ?_)
  refine ifK (fun h4 => ?_) (fun h4 => ?_)
  ·have h4 : i.toNat + k < n := by
    simp only [inI, e1, Bool.and_eq_true, decide_eq_true_eq] at h4; omega
   have hb := beN_lt ((l.drop (o + i.toNat)).take k)
   have hlen : ((l.drop (o + i.toNat)).take k).length = k := by simp; omega
   rw [hlen] at hb
   have hb2 : 256 ^ k ≤ 256 ^ 4 := Nat.pow_le_pow_right (by decide) (by omega)
   have hc := UInt8.toNat_lt (l.getD (o + (i.toNat + k)) 0)
   have e2 : bitsI .or .i64 (shlI .i64 (beN ((l.drop (o + i.toNat)).take k) : Int) 8) (IntKind.i64.wrap (((l.getD (o + (IntKind.i64.wrap (i + (k : Nat))).toNat) 0).toNat : Nat) : Int)) = (beN ((l.drop (o + i.toNat)).take (k + 1)) : Int) := by
    rw [e1, Int.toNat_natCast, wrapM (by omega) (by omega), or_byte _ _ (by omega) hc, zEx l _ k (by omega), zKw, Nat.add_assoc]
   refine ⟨k + 1, ⟨h3, by omega⟩, by omega, rcq [1] ⟨⟨_, rfl, .sl _ _ _ _ _ rfl⟩, ⟨_, rfl, .int _ _⟩, ⟨_, rfl, .int _ _⟩, ⟨_, rfl, .ptr _ _ _ rfl⟩, ⟨_, rfl, ?_⟩, ⟨_, rfl, .int _ _⟩, zAg rfl (by rw [wrapM (by omega) (by omega)]; omega), trivial⟩ ⟨bpo (zAi l), bpo rfl, trivial⟩ .nil⟩
   rw [← e2]; exact .int _ _
  ·have h4 : ¬ i.toNat + k < n := by
    simp only [inI, e1] at h4
    simp at h4; omega
   rw [if_neg (by omega)]
   refine And.intro rfl (zAc (rcq [1] (d := 7) (d2 := 2) (lv := [(6, .int .i64 0), (7, .int .i64 0), (8, .pointer (some ⟨1, 0, none⟩))]) (bs := [(1, .cells [.int .i64 4, .int .i64 (n : Int)] 53)]) (W := []) (m := 2) (df := []) ⟨⟨_, rfl, .int _ _⟩, ⟨_, rfl, .int _ _⟩, ⟨_, rfl, .ptr _ _ _ rfl⟩, trivial⟩ ⟨bpo rfl, trivial⟩ .nil) (fun f => ?_))
   exact ⟨_, _, _, rfl, zBs rfl⟩
 ·have h3 : ¬ k < sz := by have := of_decide_eq_false h3; omega
  have hkz : k = sz := by omega
  subst hkz
  rw [if_pos (by omega), show ((i.toNat + k : Nat) : Int) = IntKind.i64.wrap (i + (k : Nat)) by rw [wrapM (by omega) (by omega)]; omega]
  refine And.intro rfl (zAc (rcq [1] (d := 7) (d2 := 2) (lv := [(1, .int .i64 i), (2, .int .i64 k), (8, .pointer (some ⟨1, 0, none⟩)), (9, .int .i64 (beN ((l.drop (o + i.toNat)).take k) : Int))]) (bs := [(1, .cells [.int .i64 0, .int .i64 0] 53)]) (W := []) (m := 2) (df := []) ⟨⟨_, rfl, .int _ _⟩, ⟨_, rfl, .int _ _⟩, ⟨_, rfl, .ptr _ _ _ rfl⟩, ⟨_, rfl, .int _ _⟩, trivial⟩ ⟨bpo rfl, trivial⟩ .nil) (fun f => ?_))
  exact ⟨_, _, _, rfl, zBs rfl⟩
end Go.Proofs.Ytknpgjeclmadkaa
namespace Go.Proofs.Ytknpgjeclmadkaa
open Go Go.RowKit
def getTr (x : RdB) (i : Int) (sz : Nat) (F : Value → Prop) : Prop :=
 brK (decide (i < 0) || decide ((x.n : Int) < i)) (F (.tuple #[.int .i64 0, .int .i64 0, .agg #[.int .i64 5, .int .i64 0]]))
  (brK (Nat.ble (i.toNat + sz) x.n) (F (.tuple #[.int .i64 (beN ((x.l.drop (x.o + i.toNat)).take sz) : Int), .int .i64 ((i.toNat + sz : Nat) : Int), .agg #[.int .i64 0, .int .i64 0]]))
   (F (.tuple #[.int .i64 0, .int .i64 0, .agg #[.int .i64 4, .int .i64 (x.n : Int)]])))
theorem zHx {x : RdB} {i : Int} {sz : Nat} {F : Value → Prop} (h : getTr x i sz F) : F (getOut x.l x.o x.n i sz) := by
 unfold getTr at h
 unfold getOut
 cases h1 : (decide (i < 0) || decide ((x.n : Int) < i)) with
 | true =>
  rw [h1] at h
  simp only [Bool.or_eq_true, decide_eq_true_eq] at h1
  rw [if_pos h1]; exact h
 | false =>
  rw [h1] at h
  simp only [Bool.or_eq_false_iff, decide_eq_false_iff_not] at h1
  rw [if_neg (by omega)]
  cases h2 : Nat.ble (i.toNat + sz) x.n with
  | true => rw [h2] at h; rw [if_pos (Nat.le_of_ble_eq_true h2)]; exact h
  | false =>
   rw [h2] at h
   rw [if_neg (fun e => by rw [Nat.ble_eq_true_of_le e] at h2; cases h2)]; exact h
noncomputable def ct_get : Ct Try.prog 0 := CtR.rdB 74 (Int × Nat) (fun y => [.int .i64 y.1, .int .i64 (y.2 : Int)]) (fun x y => getOut x.l x.o x.n y.1 y.2) (fun x y => y.2 ≤ 4 ∧ x.n ≤ 1000000000) (fun _ => rfl) (fun _ _ => zCr _ _ _ _ _)
 (fun y z h => by simp only [List.cons.injEq, Value.int.injEq, true_and, and_true] at h; exact Prod.ext h.1 (by omega))
 (fun l o n c y h hp => by obtain ⟨r, hF, H, m, wr, rfl, hw⟩ := get_fn l o n c y.1 y.2 h hp.1 hp.2; exact ⟨H, m, wr, hF, hw⟩) (fun _ _ _ _ _ _ => rfl) (fun _ _ _ _ _ _ h => h)
 (fun x y F => getTr x y.1 y.2 F) (fun _ _ _ h => zHx h)
noncomputable def tbO3 : Tb Try.prog 0 := tbOf mixed [ct_get]
end Go.Proofs.Ytknpgjeclmadkaa
namespace Go.Proofs.Ytknpgjeclmadkaa
open Go Go.RowKit
noncomputable def tbO5 : Tb Try.prog 0 := tbOf mixed []
def bytesOk (n : Nat) (i z : Int) : Bool := decide (0 ≤ z ∧ 0 ≤ i ∧ i ≤ n ∧ z ≤ n - i)
def bytesBad (n : Nat) (i z : Int) : Value := .tuple #[.slice none 0 0, .int .i64 0, if z < 0 then .agg #[.int .i64 2, .int .i64 0] else if i < 0 ∨ i > n then .agg #[.int .i64 5, .int .i64 0] else .agg #[.int .i64 4, .int .i64 (n : Int)]]
def bytesV (i z : Int) (b : Nat) : Value := .tuple #[.slice (some ⟨b, 0, none⟩) z.toNat (if z.toNat = 0 then 0 else U), .int .i64 (i + z), .agg #[.int .i64 0, .int .i64 0]]
theorem rbytes_fn (l : Bl) (o n c : Nat) (i z : Int) (h : o + n ≤ l.length) (hn : n ≤ 1000000000) (hc : c = U ∨ n ≤ c ∧ c ≤ 9223372036854775807) : ∃ r, FnS Try.prog 0 64 [.slice (some ⟨0, o, none⟩) n c, .int .i64 i, .int .i64 z] (heap 1 [(0, .win (l.map byV) 1)]) 1 r ∧
  ∃ v H m wr, r = .ret v H m wr ∧ (∀ k ∈ wr, 1 ≤ k) ∧ ((bytesOk n i z = false ∧ v = bytesBad n i z) ∨ (bytesOk n i z = true ∧ ∃ b, H.get b = some (.cells (((l.drop (o + i.toNat)).take z.toNat).map byV) 5) ∧ 1 ≤ b ∧ b < JJ ∧ v = bytesV i z b)) := by
 refine zBk mixed tbO5 [0] Try.func64 (c := bodyOf Try.f64) (by kernel_rfl) ?_
 refine ifK (fun h1 => ?_) (fun h1 => ?_)
 ·have h1 := of_decide_eq_true h1
  refine ⟨_, _, _, _, rfl, zBs rfl, .inl ⟨by unfold bytesOk; simp; omega, ?_⟩⟩
  unfold bytesBad; rw [if_pos h1]; rfl
 have h1 := of_decide_eq_false h1
 refine ifK (fun h2 => ?_) (fun h2 => ?_)
 ·have h2 := of_decide_eq_true h2
  refine ⟨_, _, _, _, rfl, zBs rfl, .inl ⟨by unfold bytesOk; simp; omega, ?_⟩⟩
  unfold bytesBad; rw [if_neg h1, if_pos (.inl h2)]; rfl
 have h2 := of_decide_eq_false h2
 refine ifK (fun h3 => ?_) (fun h3 => ?_)
 ·have h3 := of_decide_eq_true h3
  refine ⟨_, _, _, _, rfl, zBs rfl, .inl ⟨by unfold bytesOk; simp; omega, ?_⟩⟩
  unfold bytesBad; rw [if_neg h1, if_pos (.inr h3)]; rfl
 have h3 := of_decide_eq_false h3
 have e1 : IntKind.i64.wrap ((n : Int) - i) = (n : Int) - i := wrapM (by omega) (by omega)
 refine ifK (fun h4 => ?_) (fun h4 => ?_)
 ·have h4 := of_decide_eq_true h4
  rw [e1] at h4
  refine ⟨_, _, _, _, rfl, zBs rfl, .inl ⟨by unfold bytesOk; simp; omega, ?_⟩⟩
  unfold bytesBad; rw [if_neg h1, if_neg (by omega)]; rfl
 have h4 := of_decide_eq_false h4
 rw [e1] at h4
 have e2 : IntKind.i64.wrap (i + z) = i + z := wrapM (by omega) (by omega)
 have hok : bytesOk n i z = true := by unfold bytesOk; simp; omega
 have e3 : (IntKind.i64.wrap (i + z)).toNat - i.toNat = z.toNat := by rw [e2]; omega
 have hcs : ∀ o', (o' = o + i.toNat ∨ z.toNat = 0) → ∀ c' : Nat, ∀ G : Gh, G 0 = some (.win (l.map byV) 1) → zAe G 1 (.slice (some ⟨0, o', none⟩) ((IntKind.i64.wrap (i + z)).toNat - i.toNat) c') = some ((IntKind.i64.wrap (i + z)).toNat - i.toNat, ((l.drop (o + i.toNat)).take z.toNat).map byV) := by
  intro o' ho' c' G hG
  rw [e3]
  unfold zAe
  by_cases hz : z.toNat = 0
  ·rw [hz]; simp
  ·have ho' : o' = o + i.toNat := ho'.resolve_right hz
   subst ho'
   have : z.toNat.beq 0 = false := by cases hb : z.toNat.beq 0; rfl; exact absurd (Nat.eq_of_beq_eq_true hb) hz
   simp only [this, cond_false, hG, Option.bind_some, AObj.look]
   rw [Nat.ble_eq_true_of_le (by simp; omega)]
   simp [List.map_take, List.map_drop]
 refine ifK (fun h5 => ?_) (fun h5 => ?_)
 ·refine And.intro (by rw [e2]; simp only [inLH, Bool.and_eq_true, decide_eq_true_eq]; omega) ?_
  refine Exists.intro (((l.drop (o + i.toNat)).take z.toNat).map byV) (And.intro ?_ ?_)
  ·refine hcs (o + i.toNat * 1) (.inl (by omega)) U _ rfl
  refine ifK (fun h6 => ?_) (fun h6 => ?_)
  ·have h6 : z.toNat = 0 := by rw [e3] at h6; exact Nat.eq_of_beq_eq_true h6
   refine ⟨_, _, _, _, rfl, zBs rfl, .inr ⟨hok, 2, ?_, by decide, by decide, ?_⟩⟩
   ·rw [h6]; rfl
   ·rw [show bytesV i z 2 = .tuple #[.slice (some ⟨2, 0, none⟩) 0 0, .int .i64 (IntKind.i64.wrap (i + z)), .agg #[.int .i64 0, .int .i64 0]] by unfold bytesV; rw [h6, e2]; rfl]; rfl
  ·have h6 : z.toNat ≠ 0 := by rw [e3] at h6; exact fun e => by rw [e] at h6; cases h6
   refine And.intro (by rw [e3]; have hB : (Try.prog.types[5]).bytes = 1 := (by kernel_rfl); simp [hB]; omega) ?_
   refine ⟨_, _, _, _, rfl, zBs rfl, .inr ⟨hok, 3, rfl, by decide, by decide, ?_⟩⟩
   rw [show bytesV i z 3 = .tuple #[.slice (some ⟨3, 0, none⟩) (0 + ((IntKind.i64.wrap (i + z)).toNat - i.toNat)) U, .int .i64 (IntKind.i64.wrap (i + z)), .agg #[.int .i64 0, .int .i64 0]] by unfold bytesV; rw [if_neg h6, e3, e2, Nat.zero_add]]; rfl
 ·have hcU : c ≠ U := fun e => by subst e; cases h5
  obtain ⟨c1, c2⟩ := hc.resolve_left hcU
  refine And.intro (by rw [e2]; simp only [inLH, Bool.and_eq_true, decide_eq_true_eq]; refine ⟨⟨⟨⟨?_, ?_⟩, ?_⟩, Nat.ble_eq_true_of_le c1⟩, Nat.ble_eq_true_of_le ?_⟩ <;> omega) ?_
  refine Exists.intro (((l.drop (o + i.toNat)).take z.toNat).map byV) (And.intro ?_ ?_)
  ·refine hcs (bif c.beq i.toNat then o else o + i.toNat * 1) ?_ _ _ rfl
   cases hb : c.beq i.toNat with
   | true => have := Nat.eq_of_beq_eq_true hb; exact .inr (by omega)
   | false => exact .inl (by rw [cond_false]; omega)
  refine ifK (fun h6 => ?_) (fun h6 => ?_)
  ·have h6 : z.toNat = 0 := by rw [e3] at h6; exact Nat.eq_of_beq_eq_true h6
   refine ⟨_, _, _, _, rfl, zBs rfl, .inr ⟨hok, 2, ?_, by decide, by decide, ?_⟩⟩
   ·rw [h6]; rfl
   ·rw [show bytesV i z 2 = .tuple #[.slice (some ⟨2, 0, none⟩) 0 0, .int .i64 (IntKind.i64.wrap (i + z)), .agg #[.int .i64 0, .int .i64 0]] by unfold bytesV; rw [h6, e2]; rfl]; rfl
  ·have h6 : z.toNat ≠ 0 := by rw [e3] at h6; exact fun e => by rw [e] at h6; cases h6
   refine And.intro (by rw [e3]; have hB : (Try.prog.types[5]).bytes = 1 := (by kernel_rfl); simp [hB]; omega) ?_
   refine ⟨_, _, _, _, rfl, zBs rfl, .inr ⟨hok, 3, rfl, by decide, by decide, ?_⟩⟩
   rw [show bytesV i z 3 = .tuple #[.slice (some ⟨3, 0, none⟩) (0 + ((IntKind.i64.wrap (i + z)).toNat - i.toNat)) U, .int .i64 (IntKind.i64.wrap (i + z)), .agg #[.int .i64 0, .int .i64 0]] by unfold bytesV; rw [if_neg h6, e3, e2, Nat.zero_add]]; rfl
end Go.Proofs.Ytknpgjeclmadkaa
namespace Go.Proofs.Ytknpgjeclmadkaa
open Go Go.RowKit
theorem bytes_fn (l : Bl) (o n c : Nat) (i z : Int) (h : o + n ≤ l.length) (hn : n ≤ 1000000000) (hc : c = U ∨ n ≤ c ∧ c ≤ 9223372036854775807) : ∃ r, FnS Try.prog 0 62 [.slice (some ⟨0, o, none⟩) n c, .int .i64 i, .int .i64 z] (heap 1 [(0, .win (l.map byV) 1)]) 1 r ∧
  ∃ v H m wr, r = .ret v H m wr ∧ (∀ k ∈ wr, 1 ≤ k) ∧ ((bytesOk n i z = false ∧ v = bytesBad n i z) ∨ (bytesOk n i z = true ∧ ∃ b, H.get b = some (.cells (((l.drop (o + i.toNat)).take z.toNat).map byV) 5) ∧ 1 ≤ b ∧ b < JJ ∧ v = bytesV i z b)) := by
 refine zBk mixed tbO5 [0] Try.func62 (c := bodyOf Try.f62) (by kernel_rfl) ?_
 refine ifK (fun h1 => ?_) (fun h1 => ?_)
 ·have h1 := of_decide_eq_true h1
  refine ⟨_, _, _, _, rfl, zBs rfl, .inl ⟨by unfold bytesOk; simp; omega, ?_⟩⟩
  unfold bytesBad; rw [if_pos h1]; rfl
 have h1 := of_decide_eq_false h1
 refine ifK (fun h2 => ?_) (fun h2 => ?_)
 ·have h2 := of_decide_eq_true h2
  refine ⟨_, _, _, _, rfl, zBs rfl, .inl ⟨by unfold bytesOk; simp; omega, ?_⟩⟩
  unfold bytesBad; rw [if_neg h1, if_pos (.inl h2)]; rfl
 have h2 := of_decide_eq_false h2
 refine ifK (fun h3 => ?_) (fun h3 => ?_)
 ·have h3 := of_decide_eq_true h3
  refine ⟨_, _, _, _, rfl, zBs rfl, .inl ⟨by unfold bytesOk; simp; omega, ?_⟩⟩
  unfold bytesBad; rw [if_neg h1, if_pos (.inr h3)]; rfl
 have h3 := of_decide_eq_false h3
 have e1 : IntKind.i64.wrap ((n : Int) - i) = (n : Int) - i := wrapM (by omega) (by omega)
 refine ifK (fun h4 => ?_) (fun h4 => ?_)
 ·have h4 := of_decide_eq_true h4
  rw [e1] at h4
  refine ⟨_, _, _, _, rfl, zBs rfl, .inl ⟨by unfold bytesOk; simp; omega, ?_⟩⟩
  unfold bytesBad; rw [if_neg h1, if_neg (by omega)]; rfl
 have h4 := of_decide_eq_false h4
 rw [e1] at h4
 have e2 : IntKind.i64.wrap (i + z) = i + z := wrapM (by omega) (by omega)
 have hok : bytesOk n i z = true := by unfold bytesOk; simp; omega
 have e3 : (IntKind.i64.wrap (i + z)).toNat - i.toNat = z.toNat := by rw [e2]; omega
 have hcs : ∀ o', (o' = o + i.toNat ∨ z.toNat = 0) → ∀ c' : Nat, ∀ G : Gh, G 0 = some (.win (l.map byV) 1) → zAe G 1 (.slice (some ⟨0, o', none⟩) ((IntKind.i64.wrap (i + z)).toNat - i.toNat) c') = some ((IntKind.i64.wrap (i + z)).toNat - i.toNat, ((l.drop (o + i.toNat)).take z.toNat).map byV) := by
  intro o' ho' c' G hG
  rw [e3]
  unfold zAe
  by_cases hz : z.toNat = 0
  ·rw [hz]; simp
  ·have ho' : o' = o + i.toNat := ho'.resolve_right hz
   subst ho'
   have : z.toNat.beq 0 = false := by cases hb : z.toNat.beq 0; rfl; exact absurd (Nat.eq_of_beq_eq_true hb) hz
   simp only [this, cond_false, hG, Option.bind_some, AObj.look]
   rw [Nat.ble_eq_true_of_le (by simp; omega)]
   simp [List.map_take, List.map_drop]
 refine ifK (fun h5 => ?_) (fun h5 => ?_)
 ·refine And.intro (by rw [e2]; simp only [inLH, Bool.and_eq_true, decide_eq_true_eq]; omega) ?_
  refine Exists.intro (((l.drop (o + i.toNat)).take z.toNat).map byV) (And.intro ?_ ?_)
  ·refine hcs (o + i.toNat * 1) (.inl (by omega)) U _ rfl
  refine ifK (fun h6 => ?_) (fun h6 => ?_)
  ·have h6 : z.toNat = 0 := by rw [e3] at h6; exact Nat.eq_of_beq_eq_true h6
   refine ⟨_, _, _, _, rfl, zBs rfl, .inr ⟨hok, 2, ?_, by decide, by decide, ?_⟩⟩
   ·rw [h6]; rfl
   ·rw [show bytesV i z 2 = .tuple #[.slice (some ⟨2, 0, none⟩) 0 0, .int .i64 (IntKind.i64.wrap (i + z)), .agg #[.int .i64 0, .int .i64 0]] by unfold bytesV; rw [h6, e2]; rfl]; rfl
  ·have h6 : z.toNat ≠ 0 := by rw [e3] at h6; exact fun e => by rw [e] at h6; cases h6
   refine And.intro (by rw [e3]; have hB : (Try.prog.types[5]).bytes = 1 := (by kernel_rfl); simp [hB]; omega) ?_
   refine ⟨_, _, _, _, rfl, zBs rfl, .inr ⟨hok, 3, rfl, by decide, by decide, ?_⟩⟩
   rw [show bytesV i z 3 = .tuple #[.slice (some ⟨3, 0, none⟩) (0 + ((IntKind.i64.wrap (i + z)).toNat - i.toNat)) U, .int .i64 (IntKind.i64.wrap (i + z)), .agg #[.int .i64 0, .int .i64 0]] by unfold bytesV; rw [if_neg h6, e3, e2, Nat.zero_add]]; rfl
 ·have hcU : c ≠ U := fun e => by subst e; cases h5
  obtain ⟨c1, c2⟩ := hc.resolve_left hcU
  refine And.intro (by rw [e2]; simp only [inLH, Bool.and_eq_true, decide_eq_true_eq]; refine ⟨⟨⟨⟨?_, ?_⟩, ?_⟩, Nat.ble_eq_true_of_le c1⟩, Nat.ble_eq_true_of_le ?_⟩ <;> omega) ?_
  refine Exists.intro (((l.drop (o + i.toNat)).take z.toNat).map byV) (And.intro ?_ ?_)
  ·refine hcs (bif c.beq i.toNat then o else o + i.toNat * 1) ?_ _ _ rfl
   cases hb : c.beq i.toNat with
   | true => have := Nat.eq_of_beq_eq_true hb; exact .inr (by omega)
   | false => exact .inl (by rw [cond_false]; omega)
  refine ifK (fun h6 => ?_) (fun h6 => ?_)
  ·have h6 : z.toNat = 0 := by rw [e3] at h6; exact Nat.eq_of_beq_eq_true h6
   refine ⟨_, _, _, _, rfl, zBs rfl, .inr ⟨hok, 2, ?_, by decide, by decide, ?_⟩⟩
   ·rw [h6]; rfl
   ·rw [show bytesV i z 2 = .tuple #[.slice (some ⟨2, 0, none⟩) 0 0, .int .i64 (IntKind.i64.wrap (i + z)), .agg #[.int .i64 0, .int .i64 0]] by unfold bytesV; rw [h6, e2]; rfl]; rfl
  ·have h6 : z.toNat ≠ 0 := by rw [e3] at h6; exact fun e => by rw [e] at h6; cases h6
   refine And.intro (by rw [e3]; have hB : (Try.prog.types[5]).bytes = 1 := (by kernel_rfl); simp [hB]; omega) ?_
   refine ⟨_, _, _, _, rfl, zBs rfl, .inr ⟨hok, 3, rfl, by decide, by decide, ?_⟩⟩
   rw [show bytesV i z 3 = .tuple #[.slice (some ⟨3, 0, none⟩) (0 + ((IntKind.i64.wrap (i + z)).toNat - i.toNat)) U, .int .i64 (IntKind.i64.wrap (i + z)), .agg #[.int .i64 0, .int .i64 0]] by unfold bytesV; rw [if_neg h6, e3, e2, Nat.zero_add]]; rfl
end Go.Proofs.Ytknpgjeclmadkaa
namespace Go.Proofs.Ytknpgjeclmadkaa
open Go Go.RowKit
theorem zEt (n : Nat) (i z : Int) : plainV 8 (bytesBad n i z) = true := by
 unfold bytesBad
 split
 ·rfl
 ·split <;> rfl
theorem zMf {σ : Nat → Nat → Prop} (i z : Int) {b n : Nat} (h : σ b n) : RV σ (bytesV i z b) (bytesV i z n) := .tuple _ _ (.cons _ _ _ _ (.sl _ _ _ _ _ h) (.cons _ _ _ _ (.int _ _) (.cons _ _ _ _ (zCe 8 rfl) .nil)))
def bytesOut (x : RdB) (y : Int × Int) (n : Nat) : Value × Option (List Value × TypeId) :=
 bif bytesOk x.n y.1 y.2 then (bytesV y.1 y.2 n, some (((x.l.drop (x.o + y.1.toNat)).take y.2.toNat).map byV, 5)) else (bytesBad x.n y.1 y.2, none)
def bytesTr (x : RdB) (i z : Int) (H : Tr AObj) (n : Nat) (K : Res → Prop) : Prop :=
 brK (decide (z < 0)) (K (.ret (.tuple #[.slice none 0 0, .int .i64 0, .agg #[.int .i64 2, .int .i64 0]]) H n []))
  (brK (decide (i < 0) || decide (i > x.n)) (K (.ret (.tuple #[.slice none 0 0, .int .i64 0, .agg #[.int .i64 5, .int .i64 0]]) H n []))
   (brK (decide ((x.n : Int) - i < z)) (K (.ret (.tuple #[.slice none 0 0, .int .i64 0, .agg #[.int .i64 4, .int .i64 (x.n : Int)]]) H n []))
    (brK (z.toNat.beq 0) (K (.ret (.tuple #[.slice (some ⟨n, 0, none⟩) 0 0, .int .i64 (i + z), .agg #[.int .i64 0, .int .i64 0]]) (H.set n (some (.cells [] 5))) (n + 1) []))
     (K (.ret (.tuple #[.slice (some ⟨n, 0, none⟩) z.toNat U, .int .i64 (i + z), .agg #[.int .i64 0, .int .i64 0]]) (H.set n (some (.cells (((x.l.drop (x.o + i.toNat)).take z.toNat).map byV) 5))) (n + 1) [])))))
theorem zKa {x : RdB} {y : Int × Int} {H : Tr AObj} {n : Nat} {K : Res → Prop} (h : bytesTr x y.1 y.2 H n K) : K (resNew (bytesOut x y n) H n) := by
 obtain ⟨i, z⟩ := y
 unfold bytesTr at h
 unfold bytesOut
 simp only [] at h ⊢
 cases h1 : decide (z < 0) with
 | true =>
  rw [h1] at h
  have h1 := of_decide_eq_true h1
  rw [show bytesOk x.n i z = false by unfold bytesOk; simp; omega]
  unfold bytesBad; rw [if_pos h1]; exact h
 | false =>
  rw [h1] at h
  have h1 := of_decide_eq_false h1
  cases h2 : (decide (i < 0) || decide (i > x.n)) with
  | true =>
   rw [h2] at h
   have h2 : i < 0 ∨ i > x.n := by simpa using h2
   rw [show bytesOk x.n i z = false by unfold bytesOk; simp; omega]
   unfold bytesBad; rw [if_neg h1, if_pos h2]; exact h
  | false =>
   rw [h2] at h
   have h2 : ¬ (i < 0 ∨ i > x.n) := by simpa using h2
   cases h3 : decide ((x.n : Int) - i < z) with
   | true =>
    rw [h3] at h
    have h3 := of_decide_eq_true h3
    rw [show bytesOk x.n i z = false by unfold bytesOk; simp; omega]
    unfold bytesBad; rw [if_neg h1, if_neg h2]; exact h
   | false =>
    rw [h3] at h
    have h3 := of_decide_eq_false h3
    rw [show bytesOk x.n i z = true by unfold bytesOk; simp; omega]
    simp only [cond_true]
    cases h4 : z.toNat.beq 0 with
    | true =>
     rw [h4] at h
     have h4 := Nat.eq_of_beq_eq_true h4
     unfold bytesV; rw [h4]; exact h
    | false =>
     rw [h4] at h
     unfold bytesV; rw [if_neg (fun e => by rw [e] at h4; cases h4)]; exact h
noncomputable def zMj : Ct Try.prog 0 := CtR.rdN 64 (Int × Int) (fun y => [.int .i64 y.1, .int .i64 y.2]) bytesOut (fun x _ => x.n ≤ 1000000000 ∧ (x.c = U ∨ x.n ≤ x.c ∧ x.c ≤ 9223372036854775807)) (fun _ => rfl)
 (fun y z h => by simp only [List.cons.injEq, Value.int.injEq, true_and, and_true] at h; exact Prod.ext h.1 h.2)
 (fun l o n c y h hp => by
  obtain ⟨r, hF, v, H, m, wr, rfl, hw, ⟨h1, rfl⟩ | ⟨h1, b, h2, h3, h4, rfl⟩⟩ := rbytes_fn l o n c y.1 y.2 h hp.1 hp.2
  ·exact ⟨_, H, m, wr, hF, hw, .inl fun n' => ⟨by unfold bytesOut; simp [h1], zEt _ _ _⟩⟩
  ·exact ⟨_, H, m, wr, hF, hw, .inr ⟨b, _, _, h2, h3, h4, zAi _, fun b0 n' => ⟨by unfold bytesOut; simp [h1], by unfold bytesOut; simp only [h1]; exact zMf _ _ (zPl (A := [b0]) h3)⟩⟩⟩)
 (fun _ _ _ _ _ _ => rfl) (fun _ _ _ _ _ _ h => h) (fun x y H n K => bytesTr x y.1 y.2 H n K) (fun _ _ _ _ _ h => zKa h)
noncomputable def tbO7 : Tb Try.prog 0 := tbOf mixed [zMj]
end Go.Proofs.Ytknpgjeclmadkaa
namespace Go.Proofs.Ytknpgjeclmadkaa
open Go Go.RowKit
theorem get16_fn (l : Bl) (o n c : Nat) (i : Int) (h : o + n ≤ l.length) (hn : n ≤ 1000000000) : ∃ r, FnS Try.prog 0 56 [.slice (some ⟨0, o, none⟩) n c, .int .i64 i] (heap 1 [(0, .win (l.map byV) 1)]) 1 r ∧ ∃ H m wr, r = .ret (getOut l o n i 2) H m wr ∧ ∀ k ∈ wr, 1 ≤ k := by
 refine zBk mixed tbO3 [0] Try.func56 (c := bodyOf Try.f56) (by kernel_rfl) ?_
 refine Exists.intro (⟨0, o, n, c, l⟩, (i, 2)) (And.intro ⟨rfl, ⟨rfl, h⟩, (show 2 ≤ 4 by decide), hn⟩ ?_)
 unfold getOut
 refine ifK (fun h1 => ?_) (fun h1 => ?_)
 ·rw [if_pos (by simpa using h1)]; exact ⟨_, _, _, rfl, zBs rfl⟩
 ·rw [if_neg (by simpa using h1)]
  refine ifK (fun h2 => ?_) (fun h2 => ?_)
  ·rw [if_pos (Nat.le_of_ble_eq_true h2)]; exact ⟨_, _, _, rfl, zBs rfl⟩
  ·rw [if_neg (fun e => by rw [show Nat.ble (i.toNat + 2) n = true from Nat.ble_eq_true_of_le e] at h2; cases h2)]; exact ⟨_, _, _, rfl, zBs rfl⟩
noncomputable def ct_get16 : Ct Try.prog 0 := CtR.rdB 56 Int (fun y => [.int .i64 y]) (fun x y => getOut x.l x.o x.n y 2) (fun x y => x.n ≤ 1000000000) (fun _ => rfl) (fun _ _ => zCr _ _ _ _ _)
 (fun y z h => by simpa using h)
 (fun l o n c y h hp => by obtain ⟨r, hF, H, m, wr, rfl, hw⟩ := get16_fn l o n c y h hp; exact ⟨H, m, wr, hF, hw⟩)
 (fun _ _ _ _ _ _ => rfl) (fun _ _ _ _ _ _ h => h)
 (fun x y F => getTr x y 2 F) (fun _ _ _ h => zHx h)
end Go.Proofs.Ytknpgjeclmadkaa
namespace Go.Proofs.Ytknpgjeclmadkaa
open Go Go.RowKit
noncomputable def ct_bytes : Ct Try.prog 0 := CtR.rdN 62 (Int × Int) (fun y => [.int .i64 y.1, .int .i64 y.2]) bytesOut (fun x _ => x.n ≤ 1000000000 ∧ (x.c = U ∨ x.n ≤ x.c ∧ x.c ≤ 9223372036854775807)) (fun _ => rfl)
 (fun y z h => by simp only [List.cons.injEq, Value.int.injEq, true_and, and_true] at h; exact Prod.ext h.1 h.2)
 (fun l o n c y h hp => by
  obtain ⟨r, hF, v, H, m, wr, rfl, hw, ⟨h1, rfl⟩ | ⟨h1, b, h2, h3, h4, rfl⟩⟩ := bytes_fn l o n c y.1 y.2 h hp.1 hp.2
  ·exact ⟨_, H, m, wr, hF, hw, .inl fun n' => ⟨by unfold bytesOut; simp [h1], zEt _ _ _⟩⟩
  ·exact ⟨_, H, m, wr, hF, hw, .inr ⟨b, _, _, h2, h3, h4, zAi _, fun b0 n' => ⟨by unfold bytesOut; simp [h1], by unfold bytesOut; simp only [h1]; exact zMf _ _ (zPl (A := [b0]) h3)⟩⟩⟩)
 (fun _ _ _ _ _ _ => rfl) (fun _ _ _ _ _ _ h => h) (fun x y H n K => bytesTr x y.1 y.2 H n K) (fun _ _ _ _ _ h => zKa h)
end Go.Proofs.Ytknpgjeclmadkaa
namespace Go.Proofs.Ytknpgjeclmadkaa
open Go Go.RowKit
def rgS (l : Bl) (o : Nat) (i : Int) (sz : Nat) (k : Nat) (f : Nat → Option Value) : Fs :=
 ⟨slots 7 [(2, .int .i64 sz), (8, .pointer (some ⟨1, 0, none⟩)), (9, .slice (some ⟨2, 0, none⟩) sz U), (10, .int .i64 (i + sz)), (11, .pointer (some ⟨3, 0, none⟩)), (12, .int .i64 (beN ((l.drop (o + i.toNat)).take k) : Int)), (13, .int .i64 k)] f,
  heap 3 [(1, .cells [.int .i64 0, .int .i64 0] 53), (2, .cells (((l.drop (o + i.toNat)).take sz).map byV) 5), (3, .cells [.int .i64 0, .int .i64 0] 53)], 4, [], []⟩
theorem rget_fn (l : Bl) (o n c : Nat) (i : Int) (sz : Nat) (h : o + n ≤ l.length) (hs1 : 1 ≤ sz) (hsz : sz ≤ 4) (hn : n ≤ 1000000000) (hc : c = U ∨ n ≤ c ∧ c ≤ 9223372036854775807) : ∃ r, FnS Try.prog 0 80 [.slice (some ⟨0, o, none⟩) n c, .int .i64 i, .int .i64 sz] (heap 1 [(0, .win (l.map byV) 1)]) 1 r ∧ ∃ H m wr, r = .ret (getOut l o n i sz) H m wr ∧ ∀ k ∈ wr, 1 ≤ k := by
 refine zBk mixed tbO7 [0] Try.func80 (c := bodyOf Try.f80) (by kernel_rfl) ?_
 refine Exists.intro (⟨0, o, n, c, l⟩, (i, (sz : Int))) (And.intro ⟨rfl, ⟨rfl, h⟩, hn, hc⟩ ?_)
 unfold getOut
 refine ifK (fun h2 => ?_) (fun h2 => ?_)
 ·rw [if_pos (by simpa using h2)]
  refine And.intro ?_ ?_
  ·kernel_rfl
  exact ⟨_, _, _, rfl, zBs rfl⟩
 have h2 : ¬ (i < 0 ∨ i > n) := by simpa using h2
 rw [if_neg (by omega)]
 refine ifK (fun h3 => ?_) (fun h3 => ?_)
 ·have h3 : (n : Int) - i < sz := of_decide_eq_true h3
  rw [if_neg (by omega)]
  refine And.intro ?_ ?_
  ·kernel_rfl
  exact ⟨_, _, _, rfl, zBs rfl⟩
 have h3 : ¬ (n : Int) - i < sz := of_decide_eq_false h3
 rw [if_pos (by omega)]
 refine ifK (fun h4 => ?_) (fun h4 => ?_)
 ·have h4 : ((sz : Nat) : Int).toNat = 0 := Nat.eq_of_beq_eq_true h4
  omega
 refine zAv (fun k => rgS l o i sz k) (fun k => sz - k) (fun k => k ≤ sz) 0 (Nat.zero_le _) (rcq [1, 2, 3] ⟨⟨_, rfl, .int _ _⟩, ⟨_, rfl, .ptr _ _ _ rfl⟩, ⟨_, rfl, ?_⟩, ⟨_, rfl, .int _ _⟩, ⟨_, rfl, .ptr _ _ _ rfl⟩, ⟨_, rfl, .int _ _⟩, ⟨_, rfl, .int _ _⟩, trivial⟩ ⟨bpo rfl, bpo (zAi _), bpo rfl, trivial⟩ .nil) ?_
 ·exact .sl _ _ _ _ _ rfl
 rintro k f hk
 refine zBe tbO7 [0, 2] 1 _ none mixed _ _ _ ?_
 refine ifK (fun h5 => ?_) (fun h5 => ?_)
 ·have h5 : k < sz := by have := of_decide_eq_true h5; omega
  refine ifK (fun _ => ?_) (fun h6 => absurd h6 (by simp [inI]; omega))
  refine Exists.intro ((l.getD (o + i.toNat + k) 0).toNat : Int) (And.intro ?_ ?_)
  ·show (((l.drop (o + i.toNat)).take sz).map byV)[0 + ((k : Nat) : Int).toNat * 1]? = _
   have hlt : o + i.toNat + k < l.length := by omega
   rw [Nat.zero_add, Nat.mul_one, Int.toNat_natCast]
   simp [h5, List.getElem?_eq_getElem hlt, byV]
  ·have hb := beN_lt ((l.drop (o + i.toNat)).take k)
   have hlen : ((l.drop (o + i.toNat)).take k).length = k := by simp; omega
   rw [hlen] at hb
   have hb2 : 256 ^ k ≤ 256 ^ 4 := Nat.pow_le_pow_right (by decide) (by omega)
   have hcb := UInt8.toNat_lt (l.getD (o + i.toNat + k) 0)
   have e2 : IntKind.i64.wrap (IntKind.i64.wrap (256 * (beN ((l.drop (o + i.toNat)).take k) : Int)) + IntKind.i64.wrap ((l.getD (o + i.toNat + k) 0).toNat : Int)) = (beN ((l.drop (o + i.toNat)).take (k + 1)) : Int) := by
    rw [wrapM (x := 256 * _) (by omega) (by omega), wrapM (x := ((l.getD (o + i.toNat + k) 0).toNat : Int)) (by omega) (by omega), wrapM (by omega) (by omega), zEx l _ k (by omega), zKw]; omega
   refine ⟨k + 1, h5, by omega, rcq [1, 2, 3] ⟨⟨_, rfl, .int _ _⟩, ⟨_, rfl, .ptr _ _ _ rfl⟩, ⟨_, rfl, .sl _ _ _ _ _ rfl⟩, ⟨_, rfl, .int _ _⟩, ⟨_, rfl, .ptr _ _ _ rfl⟩, ⟨_, rfl, ?_⟩, zAg rfl (by rw [wrapM (by omega) (by omega)]; omega), trivial⟩ ⟨bpo rfl, bpo (zAi _), bpo rfl, trivial⟩ .nil⟩
   rw [← e2]; exact .int _ _
 ·have h5 : ¬ k < sz := by have := of_decide_eq_false h5; omega
  have hkz : k = sz := by omega
  subst hkz
  rw [show ((i.toNat + k : Nat) : Int) = i + (k : Nat) by omega]
  refine And.intro rfl (zAc (rcq [1, 99, 3] (d := 7) (d2 := 3) (lv := [(8, .pointer (some ⟨1, 0, none⟩)), (10, .int .i64 (i + (k : Nat))), (11, .pointer (some ⟨3, 0, none⟩)), (12, .int .i64 (beN ((l.drop (o + i.toNat)).take k) : Int))]) (bs := [(1, .cells [.int .i64 0, .int .i64 0] 53), (3, .cells [.int .i64 0, .int .i64 0] 53)]) (W := []) (m := 4) (df := []) ⟨⟨_, rfl, .ptr _ _ _ rfl⟩, ⟨_, rfl, .int _ _⟩, ⟨_, rfl, .ptr _ _ _ rfl⟩, ⟨_, rfl, .int _ _⟩, trivial⟩ ⟨bpo rfl, bpo rfl, trivial⟩ .nil) (fun f => ?_))
  refine And.intro ?_ ?_
  ·kernel_rfl
  exact ⟨_, _, _, rfl, zBs rfl⟩
noncomputable def ct_rget : Ct Try.prog 0 := CtR.rdB 80 (Int × Nat) (fun y => [.int .i64 y.1, .int .i64 (y.2 : Int)]) (fun x y => getOut x.l x.o x.n y.1 y.2) (fun x y => 1 ≤ y.2 ∧ y.2 ≤ 4 ∧ x.n ≤ 1000000000 ∧ (x.c = U ∨ x.n ≤ x.c ∧ x.c ≤ 9223372036854775807)) (fun _ => rfl) (fun _ _ => zCr _ _ _ _ _)
 (fun y z h => by simp only [List.cons.injEq, Value.int.injEq, true_and, and_true] at h; exact Prod.ext h.1 (by omega))
 (fun l o n c y h hp => by obtain ⟨r, hF, H, m, wr, rfl, hw⟩ := rget_fn l o n c y.1 y.2 h hp.1 hp.2.1 hp.2.2.1 hp.2.2.2; exact ⟨H, m, wr, hF, hw⟩) (fun _ _ _ _ _ _ => rfl) (fun _ _ _ _ _ _ h => h)
 (fun x y F => getTr x y.1 y.2 F) (fun _ _ _ h => zHx h)
noncomputable def tbO8 : Tb Try.prog 0 := tbOf mixed [ct_rget]
end Go.Proofs.Ytknpgjeclmadkaa
namespace Go.Proofs.Ytknpgjeclmadkaa
open Go Go.RowKit
theorem rget16_fn (l : Bl) (o n c : Nat) (i : Int) (h : o + n ≤ l.length) (hn : n ≤ 1000000000) (hc : c = U ∨ n ≤ c ∧ c ≤ 9223372036854775807) : ∃ r, FnS Try.prog 0 63 [.slice (some ⟨0, o, none⟩) n c, .int .i64 i] (heap 1 [(0, .win (l.map byV) 1)]) 1 r ∧ ∃ H m wr, r = .ret (getOut l o n i 2) H m wr ∧ ∀ k ∈ wr, 1 ≤ k := by
 refine zBk mixed tbO8 [0] Try.func63 (c := bodyOf Try.f63) (by kernel_rfl) ?_
 refine Exists.intro (⟨0, o, n, c, l⟩, (i, 2)) (And.intro ⟨rfl, ⟨rfl, h⟩, (show 1 ≤ 2 by decide), (show 2 ≤ 4 by decide), hn, hc⟩ ?_)
 unfold getOut
 refine ifK (fun h1 => ?_) (fun h1 => ?_)
 ·rw [if_pos (by simpa using h1)]; exact ⟨_, _, _, rfl, zBs rfl⟩
 ·rw [if_neg (by simpa using h1)]
  refine ifK (fun h2 => ?_) (fun h2 => ?_)
  ·rw [if_pos (Nat.le_of_ble_eq_true h2)]; exact ⟨_, _, _, rfl, zBs rfl⟩
  ·rw [if_neg (fun e => by rw [show Nat.ble (i.toNat + 2) n = true from Nat.ble_eq_true_of_le e] at h2; cases h2)]; exact ⟨_, _, _, rfl, zBs rfl⟩
noncomputable def ct_rget16 : Ct Try.prog 0 := CtR.rdB 63 Int (fun y => [.int .i64 y]) (fun x y => getOut x.l x.o x.n y 2) (fun x y => x.n ≤ 1000000000 ∧ (x.c = U ∨ x.n ≤ x.c ∧ x.c ≤ 9223372036854775807)) (fun _ => rfl) (fun _ _ => zCr _ _ _ _ _)
 (fun y z h => by simpa using h)
 (fun l o n c y h hp => by obtain ⟨r, hF, H, m, wr, rfl, hw⟩ := rget16_fn l o n c y h hp.1 hp.2; exact ⟨H, m, wr, hF, hw⟩)
 (fun _ _ _ _ _ _ => rfl) (fun _ _ _ _ _ _ h => h)
 (fun x y F => getTr x y 2 F) (fun _ _ _ h => zHx h)
end Go.Proofs.Ytknpgjeclmadkaa
namespace Go.Proofs.Ytknpgjeclmadkaa
open Go Go.RowKit
noncomputable def tbN : Tb Try.prog 0 := tbOf mixed []
end Go.Proofs.Ytknpgjeclmadkaa
namespace Go.Proofs.Ytknpgjeclmadkaa
open Go Go.RowKit
def b64 (x : Int) : BitVec 64 := BitVec.ofInt 64 x
def codeI (x : Int) : Int := IntKind.i64.wrap (b64 x &&& b64 15).toNat
theorem code_fn (x : Int) : ∃ r, FnS Try.prog 0 29 [.int .i64 x] .e 0 r ∧ ∃ H m wr, r = .ret (.int .i64 (codeI x)) H m wr := by
 refine zBk mixed tbN [] Try.func29 (c := bodyOf Try.f29) (by kernel_rfl) ?_
 exact ⟨_, _, _, rfl⟩
def ct_code : Ct Try.prog 0 := Ct.int1 29 codeI (fun x => by obtain ⟨r, h, H, m, wr, rfl⟩ := code_fn x; exact ⟨H, m, wr, h⟩)
theorem zNy {n : Nat} (h : n < 18446744073709551616) : (b64 (n : Int)).toNat = n := by
 unfold b64
 rw [BitVec.toNat_ofInt]
 omega
theorem b64_15 : b64 15 = 15#64 := by decide
theorem and15 (b : BitVec 64) : (b &&& 15#64).toNat = b.toNat % 16 := by
 rw [BitVec.toNat_and]
 exact Nat.and_two_pow_sub_one_eq_mod b.toNat 4
theorem or16 {a b : BitVec 64} {q r : Nat} (ha : a.toNat = 16 * q) (hb : b.toNat = r) (hr : r < 16) : (a ||| b).toNat = 16 * q + r := by
 rw [BitVec.toNat_or, ha, hb]
 exact (Nat.two_pow_add_eq_or_of_lt (i := 4) hr q).symm
end Go.Proofs.Ytknpgjeclmadkaa
namespace Go.Proofs.Ytknpgjeclmadkaa
open Go Go.RowKit
theorem zNx : zLr (evT Try.prog 0 ([] : List (Ct Try.prog 0)) 1000000 (.call 20 []) fs0) = true := by kernel_rfl
theorem zMe (w : World) (hpos : 0 < w.heap.size) : Calls Try.prog 20 #[] w fun e w' => e = .returned (.bool true) ∧ Below w.heap.size w w' := evT_true mixed [] 1000000 _ zNx w hpos
end Go.Proofs.Ytknpgjeclmadkaa
