/- DERIVED. Parts. -/
import Derived.LoopIn
import Derived.Test.YtcggcoijhdagnaaZ12
import Derived.Test.YtcggcoijhdagnaaZ13
import Derived.Test.YtcggcoijhdagnaaZ15
import Derived.Test.YtcggcoijhdagnaaZ17
set_option maxRecDepth 1000000
set_option maxHeartbeats 32000000
namespace Go.Proofs.Ytcggcoijhdagnaa
section
open Go Go.RowKit
def rdV (y : Bs × Int × Int) : Value := .tuple #[str y.1, .agg #[.int .i64 y.2.1, .int .i64 y.2.2]]
def rdQ (B : Bl) (a z t : Int) (y : Bs × Int × Int) : Prop :=
 if t < 0 \/ t > 65535 \/ z < 0 \/ z > 65535 then y = ([], 2, 0) else if a < 0 \/ a > B.length then y = ([], 5, 0) else if (B.length : Int) - a < z then y = ([], 4, (B.length : Int)) else
 match ptsT t with | none => y = ((B.drop a.toNat).take z.toNat, 0, 0) | some ps => RdP B a (a + z) t ps a [] y
theorem zPe {B : Bl} {a z t : Int} {y y' : Bs × Int × Int} (h : rdQ B a z t y) (k : rdQ B a z t y') : y = y' := by
 unfold rdQ at h k
 split at h
 ·rename_i c; rw [if_pos c] at k; rw [h, k]
 rename_i c; rw [if_neg c] at k
 split at h
 ·rename_i c; rw [if_pos c] at k; rw [h, k]
 rename_i c; rw [if_neg c] at k
 split at h
 ·rename_i c; rw [if_pos c] at k; rw [h, k]
 rename_i c; rw [if_neg c] at k
 cases hp : ptsT t with
 | none => rw [hp] at h k; rw [h, k]
 | some ps => rw [hp] at h k; exact h.det k
def rrR (B : Bl) (a z t : Int) (r : Res) : Prop := ∃ y H m wr, r = .ret (rdV y) H m wr /\ (∀ k ∈ wr, 1 <= k) /\ rdQ B a z t y
theorem zFq {B : Bl} {a z t : Int} (h : t < 0 \/ t > 65535 \/ z < 0 \/ z > 65535) : rdQ B a z t ([], 2, 0) := by unfold rdQ; rw [if_pos h]
theorem zId {B : Bl} {a z t : Int} (h1 : ¬ (t < 0 \/ t > 65535 \/ z < 0 \/ z > 65535)) (h : a < 0 \/ a > B.length) : rdQ B a z t ([], 5, 0) := by unfold rdQ; rw [if_neg h1, if_pos h]
theorem zRj {B : Bl} {a z t : Int} {n : Nat} (h1 : ¬ (t < 0 \/ t > 65535 \/ z < 0 \/ z > 65535)) (h2 : ¬ (a < 0 \/ a > B.length)) (hn : B.length = n) (h : (n : Int) - a < z) : rdQ B a z t ([], 4, (n : Int)) := by subst hn; unfold rdQ; rw [if_neg h1, if_neg h2, if_pos h]
theorem zKg {B : Bl} {a z t : Int} {ps : List Pt} {y : Bs × Int × Int} (h1 : ¬ (t < 0 \/ t > 65535 \/ z < 0 \/ z > 65535)) (h2 : ¬ (a < 0 \/ a > B.length)) (h3 : ¬ (B.length : Int) - a < z) (hp : ptsT t = some ps) (h : RdP B a (a + z) t ps a [] y) : rdQ B a z t y := by
 unfold rdQ; rw [if_neg h1, if_neg h2, if_neg h3, hp]; exact h
theorem rdQ_none {B : Bl} {a z t : Int} (h1 : ¬ (t < 0 \/ t > 65535 \/ z < 0 \/ z > 65535)) (h2 : ¬ (a < 0 \/ a > B.length)) (h3 : ¬ (B.length : Int) - a < z) (hp : ptsT t = none) : rdQ B a z t ((B.drop a.toNat).take z.toNat, 0, 0) := by
 unfold rdQ; rw [if_neg h1, if_neg h2, if_neg h3, hp]
theorem zWx {t : Int} {s : Bs} (hp : ptsT t = none) (h : 0 <= t /\ t <= 65535) (hs : s.length <= 65535) : checkD t s = 0 := by
 unfold checkD fitsD
 rw [hp, if_neg (by omega), if_neg (by omega)]; rfl
theorem rdread_fn (l : Bl) (o n c : Nat) (a z t : Int) (h : o + n <= l.length) (hn : n <= 1000000) (hcap : c = U \/ n <= c /\ c <= 9223372036854775807) : ∃ r, FnS Try.prog 0 86 [.slice (some ⟨0, o, none⟩) n c, .int .i64 a, .int .i64 z, .int .i64 t] (heap 1 [(0, .win (l.map byV) 1)]) 1 r /\ rrR ((l.drop o).take n) a z t r := by
 have h1s : (Try.prog.types[5]).size = 1 := by kernel_rfl
 cases hp : ptsT t with
 | some ps =>
  obtain ⟨p1, _, p3⟩ := zLp hp
  have p2 : ps.length < 900 := by rcases (zLo hp).2 with ⟨_, q⟩ | q
                                  ·omega
                                  rw [q]; decide
  refine zBp mixed (tbD7 t ps p3) [0] Try.func86 (c := bodyOf Try.f86) (by kernel_rfl) ?_
  refine ifK (fun g => ?_) (fun h1 => ?_)
  ·exact ⟨([], 2, 0), _, _, _, rfl, zAu rfl, zFq (.inl (oT g))⟩
  refine ifK (fun g => ?_) (fun h2 => ?_)
  ·exact ⟨([], 2, 0), _, _, _, rfl, zAu rfl, zFq (.inr (.inl (oT g)))⟩
  refine ifK (fun g => ?_) (fun h3 => ?_)
  ·exact ⟨([], 2, 0), _, _, _, rfl, zAu rfl, zFq (.inr (.inr (.inl (oT g))))⟩
  refine ifK (fun g => ?_) (fun h4 => ?_)
  ·exact ⟨([], 2, 0), _, _, _, rfl, zAu rfl, zFq (.inr (.inr (.inr (oT g))))⟩
  have hN1 : ¬ (t < 0 \/ t > 65535 \/ z < 0 \/ z > 65535) := by have q1 := oF h1; have q2 := oF h2; have q3 := oF h3; have q4 := oF h4; omega
  refine ifK (fun g => ?_) (fun h5 => ?_)
  ·exact ⟨([], 5, 0), _, _, _, rfl, zAu rfl, zId hN1 (.inl (oT g))⟩
  refine ifK (fun g => ?_) (fun h6 => ?_)
  ·exact ⟨([], 5, 0), _, _, _, rfl, zAu rfl, zId hN1 (.inr (by rw [lenB h]; exact oT g))⟩
  have h3 : ¬ z < 0 := oF h3
  have h5 : ¬ a < 0 := oF h5
  have h6 : ¬ a > (n : Int) := oF h6
  have e1 : IntKind.i64.wrap ((n : Int) - a) = n - a := wrapN (by omega) (by omega)
  have hN2 : ¬ (a < 0 \/ a > (((l.drop o).take n).length : Int)) := by rw [lenB h]; omega
  refine ifK (fun g => ?_) (fun h7 => ?_)
  ·exact ⟨([], 4, (n : Int)), _, _, _, rfl, zAu rfl, zRj hN1 hN2 (lenB h) (by have g := oT g; rw [e1] at g; exact g)⟩
  have h7 : ¬ (n : Int) - a < z := by have h7 := oF h7; rw [e1] at h7; exact h7
  have hN3 : ¬ (((l.drop o).take n).length : Int) - a < z := by rw [lenB h]; exact h7
  have e2 : IntKind.i64.wrap (a + z) = a + z := wrapN (by omega) (by omega)
  refine aI (by simp) ?_
  refine rr_loop l o n c t a (IntKind.i64.wrap (a + z)) ps p3 p2 h hn hcap ⟨by omega, by omega, by omega⟩ (rcq [1, 2, 3] ⟨(sL rfl rfl), (sI rfl), (sP rfl rfl), (sI rfl), (sP rfl rfl), ⟨_, rfl, .string _⟩, (sI rfl), (sL rfl rfl), (sI rfl), (sI rfl), tv⟩ ⟨bpo (zAb l), bpo rfl, bpo (zAe _ Pt.cell_plain ps), bpo rfl, tv⟩ .nil) (fun er pos f w1 w2 w3 w4 => ?_) (fun i out f hl hO => ?_)
  ·exact ⟨_, _, _, _, rfl, zAu rfl, zKg hN1 hN2 hN3 hp (by rw [e2] at w4; exact w4)⟩
  refine ifK (fun g => ?_) (fun h8 => ?_)
  ·refine aI ?_ ?_
   ·kernel_rfl
   exact ⟨([], 4, a), _, _, _, rfl, zAu rfl, zKg hN1 hN2 hN3 hp (by have := hO _ (.off (fun q => by rw [q.1] at g; simp at g)); rw [e2] at this; exact this)⟩
  refine aI (zDf hl) ?_
  refine ifK (fun h9 => ?_) (fun h9 => ?_)
  ·refine aI ?_ ?_
   ·kernel_rfl
   exact ⟨([], 4, a), _, _, _, rfl, zAu rfl, zKg hN1 hN2 hN3 hp (by have := hO _ (.off (fun q => by rw [q.2] at h9; simp at h9)); rw [e2] at this; exact this)⟩
  have h9 : checkD t (bs out) = 0 := by simpa using h9
  have h8 : i = IntKind.i64.wrap (a + z) := by simpa using h8
  exact ⟨(bs out, 0, 0), _, _, _, (by show _ = Res.ret (.tuple #[str (bs out), .agg #[.int .i64 0, .int .i64 0]]) _ _ _; rw [<- str_mk out]; first | done | rfl), zAu rfl, zKg hN1 hN2 hN3 hp (by have := hO _ (.fin h8 h9); rw [e2] at this; exact this)⟩
 | none =>
  refine zBp mixed (tbD7n t (zRh hp)) [0] Try.func86 (c := bodyOf Try.f86) (by kernel_rfl) ?_
  refine ifK (fun g => ?_) (fun h1 => ?_)
  ·exact ⟨([], 2, 0), _, _, _, rfl, zAu rfl, zFq (.inl (oT g))⟩
  refine ifK (fun g => ?_) (fun h2 => ?_)
  ·exact ⟨([], 2, 0), _, _, _, rfl, zAu rfl, zFq (.inr (.inl (oT g)))⟩
  refine ifK (fun g => ?_) (fun h3 => ?_)
  ·exact ⟨([], 2, 0), _, _, _, rfl, zAu rfl, zFq (.inr (.inr (.inl (oT g))))⟩
  refine ifK (fun g => ?_) (fun h4 => ?_)
  ·exact ⟨([], 2, 0), _, _, _, rfl, zAu rfl, zFq (.inr (.inr (.inr (oT g))))⟩
  have hN1 : ¬ (t < 0 \/ t > 65535 \/ z < 0 \/ z > 65535) := by have q1 := oF h1; have q2 := oF h2; have q3 := oF h3; have q4 := oF h4; omega
  refine ifK (fun g => ?_) (fun h5 => ?_)
  ·exact ⟨([], 5, 0), _, _, _, rfl, zAu rfl, zId hN1 (.inl (oT g))⟩
  refine ifK (fun g => ?_) (fun h6 => ?_)
  ·exact ⟨([], 5, 0), _, _, _, rfl, zAu rfl, zId hN1 (.inr (by rw [lenB h]; exact oT g))⟩
  have h1 : ¬ t < 0 := oF h1
  have h2 : ¬ t > 65535 := oF h2
  have h3 : ¬ z < 0 := oF h3
  have h4 : ¬ z > 65535 := oF h4
  have h5 : ¬ a < 0 := oF h5
  have h6 : ¬ a > (n : Int) := oF h6
  have e1 : IntKind.i64.wrap ((n : Int) - a) = n - a := wrapN (by omega) (by omega)
  have hN2 : ¬ (a < 0 \/ a > (((l.drop o).take n).length : Int)) := by rw [lenB h]; omega
  refine ifK (fun g => ?_) (fun h7 => ?_)
  ·exact ⟨([], 4, (n : Int)), _, _, _, rfl, zAu rfl, zRj hN1 hN2 (lenB h) (by have g := oT g; rw [e1] at g; exact g)⟩
  have h7 : ¬ (n : Int) - a < z := by have h7 := oF h7; rw [e1] at h7; exact h7
  have hN3 : ¬ (((l.drop o).take n).length : Int) - a < z := by rw [lenB h]; exact h7
  have e2 : IntKind.i64.wrap (a + z) = a + z := wrapN (by omega) (by omega)
  have eS : bs ⟨((l.drop (o + a.toNat)).take ((IntKind.i64.wrap (a + z)).toNat - a.toNat)).toArray⟩ = (l.drop (o + a.toNat)).take ((IntKind.i64.wrap (a + z)).toNat - a.toNat) := zWt _
  have eL : ((l.drop (o + a.toNat)).take ((IntKind.i64.wrap (a + z)).toNat - a.toNat)).length <= 65535 := by rw [aU, e2]; omega
  have fin : rdQ ((l.drop o).take n) a z t ((l.drop (o + a.toNat)).take ((IntKind.i64.wrap (a + z)).toNat - a.toNat), 0, 0) := by
   have := rdQ_none hN1 hN2 hN3 hp
   rw [List.drop_take, List.take_take, List.drop_drop, Nat.min_eq_left (by omega)] at this
   rw [e2, show (a + z).toNat - a.toNat = z.toNat by omega]; exact this
  have srcs : ∀ (o' c' : Nat) (G : Gh), (o' = o + a.toNat \/ (IntKind.i64.wrap (a + z)).toNat - a.toNat = 0) -> G 0 = some (.win (l.map byV) 1) -> zAo G 1 (.slice (some ⟨0, o', none⟩) ((IntKind.i64.wrap (a + z)).toNat - a.toNat) c') = some ((IntKind.i64.wrap (a + z)).toNat - a.toNat, (((l.drop (o + a.toNat)).take ((IntKind.i64.wrap (a + z)).toNat - a.toNat)).map fun b : UInt8 => Value.int .u8 (b.toNat : Int))) := fun o' c' G ho hG => by
   rw [e2]
   rw [e2] at ho
   unfold zAo
   by_cases hz : (a + z).toNat - a.toNat = 0
   ·rw [hz]; simp
   have ho := ho.resolve_right hz
   subst ho
   have : ((a + z).toNat - a.toNat).beq 0 = false := by cases hb : ((a + z).toNat - a.toNat).beq 0; rfl; exact ab (aA hb) hz
   simp only [this, cF, hG, Option.bind_some, AObj.look]
   rw [bL (by simp; omega)]
   simp only [cT, aR, List.map_take, List.map_drop]; rfl
  refine aI (by simp) ?_
  refine ifK (fun hcu => ?_) (fun hcu => ?_)
  ·refine aI (by rw [e2]; simp only [inLH, bA, dT]; omega) ?_
   refine eI ((l.drop (o + a.toNat)).take ((IntKind.i64.wrap (a + z)).toNat - a.toNat)) (aI (by rw [h1s]; exact srcs _ _ _ (.inl (by rw [aR])) rfl) ?_)
   exact ⟨((l.drop (o + a.toNat)).take ((IntKind.i64.wrap (a + z)).toNat - a.toNat), 0, 0), _, _, _, rfl, zAu rfl, fin⟩
  have hcU : c ≠ U := fun e0 => (by subst e0; cases hcu)
  obtain ⟨hc1, hc2⟩ := hcap.resolve_left hcU
  refine aI (by rw [e2]; simp only [inLH, bA, dT]; exact ⟨⟨⟨⟨by omega, by omega⟩, by omega⟩, bL hc1⟩, bL (by omega)⟩) ?_
  refine eI ((l.drop (o + a.toNat)).take ((IntKind.i64.wrap (a + z)).toNat - a.toNat)) (aI (by rw [h1s]; exact srcs _ _ _ (by rw [aR]; cases hb : c.beq a.toNat with | true => (have hb2 := aA hb; rw [e2]; exact .inr (by omega)) | false => exact .inl rfl) rfl) ?_)
  exact ⟨((l.drop (o + a.toNat)).take ((IntKind.i64.wrap (a + z)).toNat - a.toNat), 0, 0), _, _, _, rfl, zAu rfl, fin⟩
end
section
open Go Go.RowKit
theorem bs_mkS (s : Bs) : bs (mkS s) = s := by simp [bs, mkS]
theorem zMe (a : Int) {T : List (Bl × Nat)} : ∀ (ps : List (Bs × Bool)) (out : Bl) (F : List (Bl × Nat)) (en : Nat), (wrN a T ps out F en).1 = 0 -> ∃ X, (wrN a T ps out F en).2.1 = out ++ X
 | [], out, _, _, _ => ⟨[], by simp [wrN]⟩
 | (s, false) :: ps, out, F, en, h => by
  unfold wrN at h ⊢
  obtain ⟨X, hX⟩ := zMe a ps _ _ _ h
  exact ⟨s ++ X, by rw [hX, aN]⟩
 | (s, true) :: ps, out, F, en, h => by
  unfold wrN at h ⊢
  simp only [] at h ⊢
  split at h
  ·rename_i he; exact ab h he
  rename_i he
  rw [if_neg he]
  obtain ⟨X, hX⟩ := zMe a ps _ _ _ h
  exact ⟨_, by rw [hX, aN]⟩
theorem wrapA {a n : Nat} (h : a + n < 9223372036854775807) : IntKind.i64.wrap ((a : Int) + (n : Int)) = ((a + n : Nat) : Int) := by rw [wrapN (by omega) (by omega)]; omega
theorem zNc {B : Bl} {T G : List (Bl × Nat)} {a b : Nat} (h : knowsN B T a) (hab : a <= b) (hG : ∀ s k, (s, k) ∈ G -> k < b /\ k < 16384 /\ ∃ e, Nw B k k s e) : knowsN B (T ++ G) b := fun t k hm => by
 rcases List.mem_append.1 hm with hm | hm
 ·exact h.mono hab t k hm
 exact hG t k hm
theorem zHy {B W o X Y : Bl} {a : Nat} (hb : (B.drop a).take W.length = W) (hW : W = o ++ X ++ Y) : (B.drop (a + o.length)).take X.length = X := by
 have h1 := zIi (B := B) (i := a) (k := o.length) hb (by rw [hW]; simp)
 have h2 := congrArg (List.take X.length) h1
 rw [List.take_take, Nat.min_eq_left (by rw [hW]; simp)] at h2
 rw [h2, hW, aN, List.drop_left, List.take_left]
theorem wrN_rd {B : Bl} {a : Nat} {T : List (Bl × Nat)} {t : Int} {W : Bl} (hB : a + W.length <= B.length) (hBl : B.length < 9223372036854775807) (hb : (B.drop a).take W.length = W) (ai : Int) : ∀ (ps : List Pt) (l : Bs) (o : List (Bs × Bool)) (r : Bs) (out : Bl) (F : List (Bl × Nat)) (en : Nat) (w : Bs) (R : Int × Bl × List (Bl × Nat) × Nat),
  cuts ps l = some (o, r) -> ps.all Pt.small = true -> wrN (a : Int) T o out F en = R -> R.1 = 0 -> R.2.1 = W -> knowsN B (T ++ F) (a + out.length) -> checkD t (w ++ o.flatMap fun p => p.1) = 0 ->
  RdP B ai ((a + W.length : Nat) : Int) t ps ((a + out.length : Nat) : Int) w (w ++ (o.flatMap fun p => p.1), 0, 0) /\ knowsN B (T ++ R.2.2.1) (a + W.length)
 | [], l, o, r, out, F, en, w, R, hc, _, hR, _, hW, hK, hck => by
  simp only [cuts, aP, Prod.mk.injEq] at hc
  obtain ⟨rfl, rfl⟩ := hc
  unfold wrN at hR
  subst hR
  have hW : out = W := hW
  subst hW
  have e : w ++ (([] : List (Bs × Bool)).flatMap fun p => p.1) = w := by simp
  rw [e] at hck ⊢
  exact ⟨.fin rfl hck, hK⟩
 | p :: ps, l, o, r, out, F, en, w, R, hc, hsm, hR, hR0, hW, hK, hck => by
  simp only [cuts] at hc
  cases hq : p.cut l with
  | none => rw [hq] at hc; cases hc
  | some n =>
   rw [hq] at hc
   simp only [] at hc
   obtain ⟨⟨o', r'⟩, h1, h2⟩ := Option.map_eq_some_iff.1 hc
   simp only [Prod.mk.injEq] at h2
   obtain ⟨rfl, rfl⟩ := h2
   rw [List.all_cons, bA] at hsm
   have efl : w ++ (((l.take n, p.isName) :: o').flatMap fun p => p.1) = (w ++ l.take n) ++ (o'.flatMap fun p => p.1) := by simp
   rw [efl] at hck ⊢
   cases p with
   | rest => exact ab hsm.1 (by decide)
   | sz k =>
    have hn : n = k /\ k <= l.length := by
     simp only [Pt.cut] at hq
     split at hq
     ·cases hq; exact ⟨rfl, by assumption⟩
     cases hq
    obtain ⟨rfl, hkl⟩ := hn
    have hR : wrN (a : Int) T ((l.take n, false) :: o') out F en = R := hR
    unfold wrN at hR
    obtain ⟨X, hX⟩ := zMe (a : Int) (T := T) o' (out ++ l.take n) F en (by rw [hR]; exact hR0)
    rw [hR, hW] at hX
    have hln : (l.take n).length = n := by rw [aU]; omega
    have hWl : W.length = out.length + n + X.length := by rw [hX]; simp; omega
    obtain ⟨q1, q2⟩ := wrN_rd hB hBl hb ai ps (l.drop n) o' r' (out ++ l.take n) F en (w ++ l.take n) R h1 hsm.2 hR hR0 hW (hK.mono (by simp)) hck
    refine ⟨.szc (by omega) ?_, q2⟩
    have e1 : ((a + out.length : Nat) : Int) + (n : Int) = ((a + (out ++ l.take n).length : Nat) : Int) := by simp [hln]; omega
    have e2 : (B.drop ((a + out.length : Nat) : Int).toNat).take ((((a + out.length : Nat) : Int) + (n : Int)).toNat - ((a + out.length : Nat) : Int).toNat) = l.take n := by
     have := zHy hb hX
     rw [hln] at this
     rw [show (((a + out.length : Nat) : Int) + (n : Int)).toNat - ((a + out.length : Nat) : Int).toNat = n by omega, aO]; exact this
    rw [e2, e1]; exact q1
   | nm =>
    obtain ⟨m1, m2, m3, m4⟩ := zNa hq
    have hR : wrN (a : Int) T ((l.take n, true) :: o') out F en = R := hR
    have h255 : (l.take n).length <= 255 := by omega
    generalize l.take n = s at *
    have hout : out.length <= W.length := by
     obtain ⟨X, hX⟩ := zMe (a : Int) (T := T) ((s, true) :: o') out F en (by rw [hR]; exact hR0)
     rw [hR, hW] at hX
     rw [hX]; simp
    unfold wrN at hR
    simp only [wrapA (show a + out.length < 9223372036854775807 by omega)] at hR
    by_cases he : pnE en ((a + out.length : Nat) : Int) (mkS s) ≠ 0
    ·rw [if_pos he] at hR
     subst hR
     exact ab hR0 he
    rw [if_neg he, aO] at hR
    obtain ⟨P, hP⟩ : ∃ P, packN (T ++ F) (a + out.length) s.length s 0 = P := ⟨_, rfl⟩
    rw [hP] at hR
    obtain ⟨X, hX⟩ := zMe (a : Int) (T := T) o' (out ++ P.1) (F ++ P.2) (a + out.length + P.1.length) (by rw [hR]; exact hR0)
    rw [hR, hW] at hX
    have hWl : W.length = out.length + P.1.length + X.length := by rw [hX]; simp; omega
    have hbP : (B.drop (a + out.length)).take P.1.length = P.1 := zHy hb hX
    obtain ⟨n1, n2⟩ := zPc (B := B) hK s.length s 0 m1 (aJ _) (by rw [hP]; omega) (by rw [hP]; exact hbP)
    rw [hP] at n1 n2
    have hK2 : knowsN B (T ++ (F ++ P.2)) (a + (out ++ P.1).length) := by
     rw [<- aN]
     refine zNc hK (by simp) (fun u k hm => ?_)
     obtain ⟨_, k2, k3, k4⟩ := n2 u k hm
     exact ⟨by simp; omega, k3, k4⟩
    obtain ⟨q1, q2⟩ := wrN_rd hB hBl hb ai ps (l.drop n) o' r' (out ++ P.1) (F ++ P.2) _ (w ++ s) R h1 hsm.2 hR hR0 hW hK2 hck
    refine ⟨.nmc (r := ⟨s, ((a + out.length + P.1.length : Nat) : Int), 0, 0⟩) (.inr ⟨a + out.length, rfl, by omega, ?_⟩) rfl (by show ¬ ((a + out.length + P.1.length : Nat) : Int) > _; omega) ?_, q2⟩
    ·have := n1.rd (a := a + out.length) [] (-1) (by simpa using h255)
     rw [if_pos (by decide), List.nil_append] at this
     exact this
    have e1 : ((a + out.length + P.1.length : Nat) : Int) = ((a + (out ++ P.1).length : Nat) : Int) := by simp; omega
    show RdP B ai _ t ps ((a + out.length + P.1.length : Nat) : Int) (w ++ s) _
    rw [e1]; exact q1
end
section
open Go Go.RowKit
noncomputable def cq_rdread : CtQ Try.prog :=
 { f := 86, X := RdB × Int × Int × Int, pre := fun x a H _ => a = [x.1.sl, .int .i64 x.2.1, .int .i64 x.2.2.1, .int .i64 x.2.2.2] /\ x.1.at H /\ x.1.n <= 1000000 /\ (x.1.c = U \/ x.1.n <= x.1.c /\ x.1.c <= 9223372036854775807), Q := fun x v => ∃ y, v = rdV y /\ rdQ x.1.B x.2.1 x.2.2.1 x.2.2.2 y,
   ok := fun ⟨⟨b, o, n, c, l⟩, i, z, t⟩ a H m ⟨h1, h2, h3, h4⟩ => by
    subst h1
    obtain ⟨r, hF, y, H', m', wr, rfl, hw, hq⟩ := rdread_fn l o n c i z t h2.2 h3 h4
    exact ⟨rdV y, zDc [b] hF hw zKs (.cons _ _ _ _ (.sl _ _ _ _ _ rfl) (zCk rfl)) (zFr h2.1 (zAb l)) rfl, y, rfl, hq⟩,
   uniq := fun ⟨x, i, z, t⟩ ⟨y, i', z', t'⟩ a H m ⟨h1, h2, _⟩ ⟨k1, k2, _⟩ => by
    rw [h1] at k1
    simp only [aQ, Value.int.injEq, true_and, and_true] at k1
    obtain ⟨e1, rfl, rfl, rfl⟩ := k1
    rw [RdB.uniq e1 h2 k2] }
noncomputable def zWz : Ct Try.prog 0 := cq_rdread.ctY (Bs × Int × Int) rdV (fun (x : RdB × Int × Int × Int) y => rdQ x.1.B x.2.1 x.2.2.1 x.2.2.2 y) (fun _ _ h => h)
noncomputable def ct_wreadY : Ct Try.prog 0 := zUw.ctY RR rrV (fun (x : RdB × Int) r => rdOk x.1.B x.2 r) (fun _ _ h => h)
theorem RdP.fine {B : Bl} {a e t : Int} {ps : List Pt} {i : Int} {out : Bs} {y : Bs × Int × Int} (h : RdP B a e t ps i out y) (ha : 0 <= a /\ a <= B.length) : (y.2.1 ≠ 0 -> y.1 = [] /\ 0 <= y.2.2 /\ y.2.2 <= B.length) /\ (y.2.1 = 0 -> y.2.2 = 0 /\ checkD t y.1 = 0) := by
 induction h with
 | fin h1 h2 => exact ⟨fun e => ab rfl e, fun _ => ⟨rfl, h2⟩⟩
 | off h => exact ⟨fun _ => ⟨rfl, ha⟩, fun e => by cases e⟩
 | nmb h he => exact ⟨fun _ => ⟨rfl, h.fine.1 he⟩, fun e => ab e he⟩
 | nmo h he h2 => exact ⟨fun _ => ⟨rfl, ha⟩, fun e => by cases e⟩
 | nmc _ _ _ _ ih => exact ih
 | rest _ ih => exact ih
 | szb h => exact ⟨fun _ => ⟨rfl, ha⟩, fun e => by cases e⟩
 | szc _ _ ih => exact ih
theorem rdQ.fine {B : Bl} {a z t : Int} {y : Bs × Int × Int} (h : rdQ B a z t y) : (y.2.1 ≠ 0 -> y.1 = [] /\ 0 <= y.2.2 /\ y.2.2 <= B.length) /\ (y.2.1 = 0 -> y.2.2 = 0 /\ checkD t y.1 = 0 /\ 0 <= z /\ a + z <= B.length) := by
 unfold rdQ at h
 split at h
 ·subst h; exact ⟨fun _ => ⟨rfl, Int.le_refl _, Int.natCast_nonneg _⟩, fun e => by cases e⟩
 split at h
 ·subst h; exact ⟨fun _ => ⟨rfl, Int.le_refl _, Int.natCast_nonneg _⟩, fun e => by cases e⟩
 split at h
 ·subst h; exact ⟨fun _ => ⟨rfl, Int.natCast_nonneg _, Int.le_refl _⟩, fun e => by cases e⟩
 cases hp : ptsT t with
 | none =>
  rw [hp] at h
  subst h
  exact ⟨fun e => ab rfl e, fun _ => ⟨rfl, zWx hp (by omega) (by rw [aU]; omega), by omega, by omega⟩⟩
 | some ps =>
  rw [hp] at h
  obtain ⟨q1, q2⟩ := RdP.fine h (by omega)
  exact ⟨q1, fun e => ⟨(q2 e).1, (q2 e).2, by omega, by omega⟩⟩
end
section
open Go Go.RowKit
noncomputable def baseR8 : List (Ct Try.prog 0) := [ct_wreadY, zUx, ct_get32, zWz]
noncomputable def inl_takes : Ct Try.prog 0 := Ct.inl (tbOf mixed baseR8) mixed [0] 100 Try.f100 Try.func100 (bodyOf Try.f100) (by kernel_rfl)
noncomputable def tbR8a : Tb Try.prog 0 := tbOf mixed (inl_takes :: baseR8)
noncomputable def inl_name : Ct Try.prog 0 := Ct.inl tbR8a mixed [0] 83 Try.f83 Try.func83 (bodyOf Try.f83) (by kernel_rfl)
noncomputable def inl_two : Ct Try.prog 0 := Ct.inl tbR8a mixed [0] 84 Try.f84 Try.func84 (bodyOf Try.f84) (by kernel_rfl)
noncomputable def inl_four : Ct Try.prog 0 := Ct.inl tbR8a mixed [0] 85 Try.f85 Try.func85 (bodyOf Try.f85) (by kernel_rfl)
noncomputable def tbR8 : Tb Try.prog 0 := tbOf mixed (inl_name :: inl_two :: inl_four :: baseR8)
def numAt (B : Bl) (k sz : Nat) : Nat := beN ((B.drop k).take sz)
def recBad (e p : Int) : Value := .tuple #[.agg #[.string ⟨#[]⟩, .int .i64 0, .int .i64 0, .int .i64 0, .string ⟨#[]⟩], .int .i64 0, .agg #[.int .i64 e, .int .i64 p]]
def zTu (s : Bl) (t c ttl : Nat) (d : Bs) (next : Int) : Value := .tuple #[.agg #[str s, .int .i64 t, .int .i64 c, .int .i64 (if ttl > 2147483647 then 0 else (ttl : Int)), str d], .int .i64 next, .agg #[.int .i64 0, .int .i64 0]]
def queBad (e p : Int) : Value := .tuple #[.agg #[.string ⟨#[]⟩, .int .i64 0, .int .i64 0], .int .i64 0, .agg #[.int .i64 e, .int .i64 p]]
def zTs (s : Bl) (t c : Nat) (next : Int) : Value := .tuple #[.agg #[str s, .int .i64 t, .int .i64 c], .int .i64 next, .agg #[.int .i64 0, .int .i64 0]]
inductive recQ (B : Bl) (a : Int) : Value -> Prop
 | name {r : RR} (h : rdOk B a r) (he : r.e ≠ 0) : recQ B a (recBad r.e r.pos)
 | short {r : RR} {k : Nat} (h : rdOk B a r) (he : r.e = 0) (hk : r.next = k) (hl : B.length < k + 10) : recQ B a (recBad 4 (B.length : Int))
 | data {r : RR} {k : Nat} {y : Bs × Int × Int} (h : rdOk B a r) (he : r.e = 0) (hk : r.next = k) (hl : k + 10 <= B.length) (hy : rdQ B (k + 10 : Nat) (numAt B (k + 8) 2) (numAt B k 2) y) (hf : y.2.1 ≠ 0) : recQ B a (recBad y.2.1 y.2.2)
 | fine {r : RR} {k : Nat} {y : Bs × Int × Int} (h : rdOk B a r) (he : r.e = 0) (hk : r.next = k) (hl : k + 10 <= B.length) (hy : rdQ B (k + 10 : Nat) (numAt B (k + 8) 2) (numAt B k 2) y) (hf : y.2.1 = 0) : recQ B a (zTu r.s (numAt B k 2) (numAt B (k + 2) 2) (numAt B (k + 4) 4) y.1 ((k + 10 : Nat) + (numAt B (k + 8) 2 : Int)))
theorem recQ.det {B : Bl} {a : Int} {v v' : Value} (h : recQ B a v) (k : recQ B a v') : v = v' := by
 cases h with
 | name h he => cases k with
  | name h' => rw [zAp h h']
  | short h' he' => rw [zAp h h'] at he; exact ab he' he
  | data h' he' => rw [zAp h h'] at he; exact ab he' he
  | fine h' he' => rw [zAp h h'] at he; exact ab he' he
 | short h he hk hl => cases k with
  | name h' he' => rw [zAp h h'] at he; exact ab he he'
  | short => rfl
  | data h' _ hk' hl' => rw [zAp h h', hk'] at hk; omega
  | fine h' _ hk' hl' => rw [zAp h h', hk'] at hk; omega
 | data h he hk hl hy hf => cases k with
  | name h' he' => rw [zAp h h'] at he; exact ab he he'
  | short h' _ hk' hl' => rw [zAp h h', hk'] at hk; omega
  | data h' _ hk' _ hy' => rw [zAp h h', hk'] at hk; have hk := Int.ofNat.inj hk; subst hk; rw [zPe hy hy']
  | fine h' _ hk' _ hy' hf' => rw [zAp h h', hk'] at hk; have hk := Int.ofNat.inj hk; subst hk; rw [zPe hy hy'] at hf; exact ab hf' hf
 | fine h he hk hl hy hf => cases k with
  | name h' he' => rw [zAp h h'] at he; exact ab he he'
  | short h' _ hk' hl' => rw [zAp h h', hk'] at hk; omega
  | data h' _ hk' _ hy' hf' => rw [zAp h h', hk'] at hk; have hk := Int.ofNat.inj hk; subst hk; rw [zPe hy hy'] at hf; exact ab hf hf'
  | fine h' _ hk' _ hy' => have e := zAp h h'; subst e; rw [hk'] at hk; have hk := Int.ofNat.inj hk; subst hk; rw [zPe hy hy']
inductive queQ (B : Bl) (a : Int) : Value -> Prop
 | name {r : RR} (h : rdOk B a r) (he : r.e ≠ 0) : queQ B a (queBad r.e r.pos)
 | short {r : RR} {k : Nat} (h : rdOk B a r) (he : r.e = 0) (hk : r.next = k) (hl : B.length < k + 4) : queQ B a (queBad 4 (B.length : Int))
 | fine {r : RR} {k : Nat} (h : rdOk B a r) (he : r.e = 0) (hk : r.next = k) (hl : k + 4 <= B.length) : queQ B a (zTs r.s (numAt B k 2) (numAt B (k + 2) 2) ((k + 4 : Nat) : Int))
theorem queQ.det {B : Bl} {a : Int} {v v' : Value} (h : queQ B a v) (k : queQ B a v') : v = v' := by
 cases h with
 | name h he => cases k with
  | name h' => rw [zAp h h']
  | short h' he' => rw [zAp h h'] at he; exact ab he' he
  | fine h' he' => rw [zAp h h'] at he; exact ab he' he
 | short h he hk hl => cases k with
  | name h' he' => rw [zAp h h'] at he; exact ab he he'
  | short => rfl
  | fine h' _ hk' hl' => rw [zAp h h', hk'] at hk; omega
 | fine h he hk hl => cases k with
  | name h' he' => rw [zAp h h'] at he; exact ab he he'
  | short h' _ hk' hl' => rw [zAp h h', hk'] at hk; omega
  | fine h' _ hk' => have e := zAp h h'; subst e; rw [hk'] at hk; have hk := Int.ofNat.inj hk; subst hk; rfl
theorem zTt (l : Bl) (o n c : Nat) (i : Int) (h : o + n <= l.length) (hn : n <= 1000000) (hcap : c = U \/ n <= c /\ c <= 9223372036854775807) : ∃ r, FnS Try.prog 0 62 [.slice (some ⟨0, o, none⟩) n c, .int .i64 i] (heap 1 [(0, .win (l.map byV) 1)]) 1 r /\ ∃ v H m wr, r = .ret v H m wr /\ (∀ k ∈ wr, 1 <= k) /\ plainV 8 v = true /\ queQ ((l.drop o).take n) i v := by
 have hB := lenB h
 have htake : ∀ j m : Nat, j + m <= n -> numAt ((l.drop o).take n) j m = beN ((l.drop (o + j)).take m) := fun j m hjm => by unfold numAt; rw [List.drop_take, List.take_take, List.drop_drop, Nat.min_eq_left (by omega)]
 refine zBp mixed tbR8 [0] Try.func62 (c := bodyOf Try.f62) (by kernel_rfl) ?_
 refine aI ?_ ?_
 ·kernel_rfl
 refine eI (⟨0, o, n, c, l⟩, i) (aI ⟨rfl, ⟨rfl, h⟩, (by show n <= _; omega), hcap⟩ ?_)
 intro r hr
 obtain ⟨s, nx, e, pos⟩ := r
 have hr : rdOk ((l.drop o).take n) i ⟨s, nx, e, pos⟩ := hr
 refine ifK (fun g => ?_) (fun g => ?_)
 ·have g : e ≠ 0 := by simpa using g
  have gz : (e == 0) = true -> False := fun q => g (by simpa using q)
  refine ifK (fun q => (gz q).elim) (fun _ => ?_)
  refine ifK (fun q => (gz q).elim) (fun _ => ?_)
  refine ifK (fun _ => ?_) (fun q => ab q (by simpa using g))
  refine aI ?_ ?_
  ·kernel_rfl
  exact ⟨queBad e pos, _, _, _, rfl, zAu rfl, rfl, .name hr g⟩
 have g : e = 0 := by simpa using g
 subst g
 obtain ⟨q1, q2, _⟩ := hr.fine.2 rfl
 have q1 : 0 <= nx := q1
 have q2 : nx <= (((l.drop o).take n).length : Int) := q2
 rw [hB] at q2
 obtain ⟨k, rfl⟩ := Int.eq_ofNat_of_zero_le q1
 refine aI ?_ ?_
 ·kernel_rfl
 refine eI (⟨0, o, n, c, l⟩, ((k + 0 : Nat) : Int)) (aI ⟨rfl, ⟨rfl, h⟩, (by show n <= _; omega)⟩ ?_)
 refine ifK (fun q => ab q (by simp only [Bool.or_eq_true, dT]; omega)) (fun _ => ?_)
 refine ifK (fun s0 => ?_) (fun s0 => ?_)
 rotate_left
 ·have s0 : ¬ k + 2 <= n := fun e => by rw [show Nat.ble (((k + 0 : Nat) : Int).toNat + 2) n = true from bL e] at s0; cases s0
  refine aI ?_ ?_
  ·kernel_rfl
  exact ⟨queBad 4 (n : Int), _, _, _, rfl, zAu rfl, rfl, by have := queQ.short hr rfl rfl (show ((l.drop o).take n).length < _ by rw [hB]; omega); rw [hB] at this; exact this⟩
 have s0 : k + 2 <= n := aE s0
 refine aI ?_ ?_
 ·kernel_rfl
 refine eI (⟨0, o, n, c, l⟩, ((k + 2 : Nat) : Int)) (aI ⟨rfl, ⟨rfl, h⟩, (by show n <= _; omega)⟩ ?_)
 refine ifK (fun q => ab q (by simp only [Bool.or_eq_true, dT]; omega)) (fun _ => ?_)
 refine ifK (fun s2 => ?_) (fun s2 => ?_)
 rotate_left
 ·have s2 : ¬ k + 4 <= n := fun e => by rw [show Nat.ble (((k + 2 : Nat) : Int).toNat + 2) n = true from bL e] at s2; cases s2
  refine aI ?_ ?_
  ·kernel_rfl
  exact ⟨queBad 4 (n : Int), _, _, _, rfl, zAu rfl, rfl, by have := queQ.short hr rfl rfl (show ((l.drop o).take n).length < _ by rw [hB]; omega); rw [hB] at this; exact this⟩
 have s2 : k + 4 <= n := aE s2
 refine aI ?_ ?_
 ·kernel_rfl
 have fin := queQ.fine hr rfl rfl (show k + 4 <= ((l.drop o).take n).length by rw [hB]; omega)
 rw [htake k 2 (by omega), htake (k + 2) 2 (by omega)] at fin
 exact ⟨_, _, _, _, rfl, zAu rfl, rfl, fin⟩
theorem zXr (l : Bl) (o n c : Nat) (i : Int) (h : o + n <= l.length) (hn : n <= 1000000) (hcap : c = U \/ n <= c /\ c <= 9223372036854775807) : ∃ r, FnS Try.prog 0 63 [.slice (some ⟨0, o, none⟩) n c, .int .i64 i] (heap 1 [(0, .win (l.map byV) 1)]) 1 r /\ ∃ v H m wr, r = .ret v H m wr /\ (∀ k ∈ wr, 1 <= k) /\ plainV 8 v = true /\ recQ ((l.drop o).take n) i v := by
 have hB := lenB h
 have htake : ∀ j m : Nat, j + m <= n -> numAt ((l.drop o).take n) j m = beN ((l.drop (o + j)).take m) := fun j m hjm => by unfold numAt; rw [List.drop_take, List.take_take, List.drop_drop, Nat.min_eq_left (by omega)]
 refine zBp mixed tbR8 [0] Try.func63 (c := bodyOf Try.f63) (by kernel_rfl) ?_
 refine aI ?_ ?_
 ·kernel_rfl
 refine eI (⟨0, o, n, c, l⟩, i) (aI ⟨rfl, ⟨rfl, h⟩, (by show n <= _; omega), hcap⟩ ?_)
 intro r hr
 obtain ⟨s, nx, e, pos⟩ := r
 have hr : rdOk ((l.drop o).take n) i ⟨s, nx, e, pos⟩ := hr
 refine ifK (fun g => ?_) (fun g => ?_)
 ·have g : e ≠ 0 := by simpa using g
  have gz : (e == 0) = true -> False := fun q => g (by simpa using q)
  refine ifK (fun q => (gz q).elim) (fun _ => ?_)
  refine ifK (fun q => (gz q).elim) (fun _ => ?_)
  refine ifK (fun q => (gz q).elim) (fun _ => ?_)
  refine ifK (fun q => (gz q).elim) (fun _ => ?_)
  refine ifK (fun _ => ?_) (fun q => ab q (by simpa using g))
  refine aI ?_ ?_
  ·kernel_rfl
  exact ⟨recBad e pos, _, _, _, rfl, zAu rfl, rfl, .name hr g⟩
 have g : e = 0 := by simpa using g
 subst g
 obtain ⟨q1, q2, _⟩ := hr.fine.2 rfl
 have q1 : 0 <= nx := q1
 have q2 : nx <= (((l.drop o).take n).length : Int) := q2
 rw [hB] at q2
 obtain ⟨k, rfl⟩ := Int.eq_ofNat_of_zero_le q1
 refine aI ?_ ?_
 ·kernel_rfl
 refine eI (⟨0, o, n, c, l⟩, ((k + 0 : Nat) : Int)) (aI ⟨rfl, ⟨rfl, h⟩, (by show n <= _; omega)⟩ ?_)
 refine ifK (fun q => ab q (by simp only [Bool.or_eq_true, dT]; omega)) (fun _ => ?_)
 refine ifK (fun s0 => ?_) (fun s0 => ?_)
 rotate_left
 ·have s0 : ¬ k + 2 <= n := fun e => by rw [show Nat.ble (((k + 0 : Nat) : Int).toNat + 2) n = true from bL e] at s0; cases s0
  refine aI ?_ ?_
  ·kernel_rfl
  exact ⟨recBad 4 (n : Int), _, _, _, rfl, zAu rfl, rfl, by have := recQ.short hr rfl rfl (show ((l.drop o).take n).length < _ by rw [hB]; omega); rw [hB] at this; exact this⟩
 have s0 : k + 2 <= n := aE s0
 refine aI ?_ ?_
 ·kernel_rfl
 refine eI (⟨0, o, n, c, l⟩, ((k + 2 : Nat) : Int)) (aI ⟨rfl, ⟨rfl, h⟩, (by show n <= _; omega)⟩ ?_)
 refine ifK (fun q => ab q (by simp only [Bool.or_eq_true, dT]; omega)) (fun _ => ?_)
 refine ifK (fun s2 => ?_) (fun s2 => ?_)
 rotate_left
 ·have s2 : ¬ k + 4 <= n := fun e => by rw [show Nat.ble (((k + 2 : Nat) : Int).toNat + 2) n = true from bL e] at s2; cases s2
  refine aI ?_ ?_
  ·kernel_rfl
  exact ⟨recBad 4 (n : Int), _, _, _, rfl, zAu rfl, rfl, by have := recQ.short hr rfl rfl (show ((l.drop o).take n).length < _ by rw [hB]; omega); rw [hB] at this; exact this⟩
 have s2 : k + 4 <= n := aE s2
 refine aI ?_ ?_
 ·kernel_rfl
 refine eI (⟨0, o, n, c, l⟩, ((k + 4 : Nat) : Int)) (aI ⟨rfl, ⟨rfl, h⟩, (by show n <= _; omega)⟩ ?_)
 refine ifK (fun q => ab q (by simp only [Bool.or_eq_true, dT]; omega)) (fun _ => ?_)
 refine ifK (fun s4 => ?_) (fun s4 => ?_)
 rotate_left
 ·have s4 : ¬ k + 8 <= n := fun e => by rw [show Nat.ble (((k + 4 : Nat) : Int).toNat + 4) n = true from bL e] at s4; cases s4
  refine aI ?_ ?_
  ·kernel_rfl
  exact ⟨recBad 4 (n : Int), _, _, _, rfl, zAu rfl, rfl, by have := recQ.short hr rfl rfl (show ((l.drop o).take n).length < _ by rw [hB]; omega); rw [hB] at this; exact this⟩
 have s4 : k + 8 <= n := aE s4
 refine aI ?_ ?_
 ·kernel_rfl
 refine eI (⟨0, o, n, c, l⟩, ((k + 8 : Nat) : Int)) (aI ⟨rfl, ⟨rfl, h⟩, (by show n <= _; omega)⟩ ?_)
 refine ifK (fun q => ab q (by simp only [Bool.or_eq_true, dT]; omega)) (fun _ => ?_)
 refine ifK (fun s8 => ?_) (fun s8 => ?_)
 rotate_left
 ·have s8 : ¬ k + 10 <= n := fun e => by rw [show Nat.ble (((k + 8 : Nat) : Int).toNat + 2) n = true from bL e] at s8; cases s8
  refine aI ?_ ?_
  ·kernel_rfl
  exact ⟨recBad 4 (n : Int), _, _, _, rfl, zAu rfl, rfl, by have := recQ.short hr rfl rfl (show ((l.drop o).take n).length < _ by rw [hB]; omega); rw [hB] at this; exact this⟩
 have s8 : k + 10 <= n := aE s8
 refine aI ?_ ?_
 ·kernel_rfl
 refine eI (⟨0, o, n, c, l⟩, ((k + 10 : Nat) : Int), (beN ((l.drop (o + (k + 8))).take 2) : Int), (beN ((l.drop (o + k)).take 2) : Int)) (aI ⟨rfl, ⟨rfl, h⟩, (by show n <= _; omega), hcap⟩ ?_)
 intro y hy
 have hy : rdQ ((l.drop o).take n) ((k + 10 : Nat) : Int) (beN ((l.drop (o + (k + 8))).take 2) : Int) (beN ((l.drop (o + k)).take 2) : Int) y := hy
 have hy2 := hy
 rw [<- htake (k + 8) 2 (by omega), <- htake k 2 (by omega)] at hy2
 have hl : k + 10 <= ((l.drop o).take n).length := by rw [hB]; omega
 refine ifK (fun g => ?_) (fun g => ?_)
 ·have g : y.2.1 ≠ 0 := by simpa using g
  refine aI ?_ ?_
  ·kernel_rfl
  exact ⟨recBad y.2.1 y.2.2, _, _, _, rfl, zAu rfl, rfl, .data hr rfl rfl hl hy2 g⟩
 have g : y.2.1 = 0 := by simpa using g
 have fin := recQ.fine hr rfl rfl hl hy2 g
 have hy3 := (hy.fine.2 g).2.2.2
 rw [hB] at hy3
 rw [htake k 2 (by omega), htake (k + 2) 2 (by omega), htake (k + 4) 4 (by omega), htake (k + 8) 2 (by omega)] at fin
 have ew : IntKind.i64.wrap (((k + 10 : Nat) : Int) + (beN ((l.drop (o + (k + 8))).take 2) : Int)) = ((k + 10 : Nat) : Int) + (beN ((l.drop (o + (k + 8))).take 2) : Int) := wrapM (by omega) (by omega)
 unfold zTu at fin
 refine ifK (fun g2 => ?_) (fun g2 => ?_)
 ·have g2 : (beN ((l.drop (o + (k + 4))).take 4) : Int) > 2147483647 := oT g2
  rw [if_pos (by omega)] at fin
  refine aI ?_ ?_
  ·kernel_rfl
  rw [<- ew] at fin
  exact ⟨_, _, _, _, rfl, zAu rfl, rfl, fin⟩
 have g2 : ¬ (beN ((l.drop (o + (k + 4))).take 4) : Int) > 2147483647 := oF g2
 rw [if_neg (by omega)] at fin
 refine aI ?_ ?_
 ·kernel_rfl
 rw [<- ew] at fin
 exact ⟨_, _, _, _, rfl, zAu rfl, rfl, fin⟩
end
section
open Go Go.RowKit
theorem ovN_ne (b : Nat) {o : Bl} (h : o ≠ []) : ovN b o = sq b o.length U := by
 cases o with
 | nil => exact ab rfl h
 | cons u us => rfl
def PkFn (f : FuncId) (xs : List Value) (en : Nat) (T : List (Bl × Nat)) (ck : Nat) (R : Int × Bl × List (Bl × Nat) × Nat) : Prop :=
 ∃ r, FnS Try.prog 0 f (pt 0 :: xs) (heap 2 [(0, .cells [.map (some 1), .int .i64 (en : Int)] 98), (1, .map (encT T) ck)]) 2 r /\
  ∃ H m wr b, r = .ret (.tuple #[ovN b R.2.1, .int .i64 R.1]) H m wr /\ (R.2.1 ≠ [] -> 2 <= b /\ b < JJ /\ H.get b = some (.cells (R.2.1.map byV) 5)) /\ H.get 0 = some (.cells [.map (some 1), .int .i64 (R.2.2.2 : Int)] 98) /\ H.get 1 = some (.map (encT (T ++ R.2.2.1)) (ck + R.2.2.1.length))
structure PkY (Y : Type) where
 pb : Nat
 mb : Nat
 en : Nat
 T : List (Bl × Nat)
 ck : Nat
 y : Y
 e : Int
 o : Bl
 F : List (Bl × Nat)
 en' : Nat
noncomputable def ct_pk (f : FuncId) (Y : Type) (xs : Y -> List Value) (inj : ∀ y y', xs y = xs y' -> y = y') (pl : ∀ y, plainL (xs y) = true) (pre : Y -> Prop) (D : Nat -> List (Bl × Nat) -> Y -> Int × Bl × List (Bl × Nat) × Nat)
  (fn : ∀ (y : Y) (en : Nat) (T : List (Bl × Nat)) (ck : Nat), goodT T -> pre y -> PkFn f (xs y) en T ck (D en T y)) : Ct Try.prog 0 :=
 CtR.ct { f := f, X := PkY Y,
          pre := fun x as0 H _ => as0 = .pointer (some ⟨x.pb, 0, none⟩) :: xs x.y /\ H.get x.pb = some (.cells [.map (some x.mb), .int .i64 (x.en : Int)] 98) /\ H.get x.mb = some (.map (encT x.T) x.ck) /\ goodT x.T /\ pre x.y /\ D x.en x.T x.y = (x.e, x.o, x.F, x.en'),
          out := fun x H n => packO x.pb x.mb x.T x.ck x.e x.o x.F x.en' H n,
          tr := fun x H n K => frcN x.pb fun pb => frcN x.mb fun mb => K (packO pb mb x.T x.ck x.e x.o x.F x.en' H n),
          trOk := fun x H n K h => zRc h,
          ok := fun x as0 H n ⟨h1, h2, h3, h4, h5, h6⟩ => by
           subst h1
           obtain ⟨pb, mb, en, T, ck, y, e, o, F, en'⟩ := x
           obtain ⟨q1, q2, q3⟩ := packB h2 h3
           have hfn := fn y en T ck h4 h5
           have h6 : D en T y = (e, o, F, en') := h6
           rw [h6] at hfn
           obtain ⟨r, hF, H', m, wr, b, rfl, g1, g2, g3⟩ := hfn
           have := zJk (n := n) (hF.wr [0, 1]) q1 q2 (.cons _ _ _ _ (.ptr _ _ _ rfl) (zCk (pl y))) h2 h3 (by simp) (by simp) g1 g2 g3 q3
           cases o <;> exact this,
          uniq := fun x y as0 H n ⟨h1, h2, h3, _, _, h6⟩ ⟨k1, k2, k3, _, _, k6⟩ => by
           obtain ⟨pb, mb, en, T, ck, z, e, o, F, en1⟩ := x
           obtain ⟨pb', mb', en', T', ck', z', e', o', F', en1'⟩ := y
           rw [h1] at k1
           simp only [aQ, Value.pointer.injEq, aP, Addr.mk.injEq, and_true] at k1
           obtain ⟨rfl, k1⟩ := k1
           have := inj _ _ k1
           subst this
           obtain ⟨rfl, rfl, rfl, rfl⟩ := zRd h2 h3 k2 k3
           have := h6.symm.trans k6
           simp only [Prod.mk.injEq] at this
           obtain ⟨rfl, rfl, rfl, rfl⟩ := this
           rfl }
end
section
open Go Go.RowKit
theorem zFs {x : RcX} (h : recC x = 0) : (labels (bs x.n)).2 = 0 /\ numB x.t 65535 = true /\ numB x.c 65535 = true /\ numB x.ttl 2147483647 = true /\ checkD x.t (bs x.d) = 0 := by
 unfold recC at h
 split at h
 ·rename_i h1; exact ab h h1
 rename_i h1
 split at h
 ·rename_i h2
  simp only [bA] at h2
  exact ⟨by simpa using h1, h2.1.1, h2.1.2, h2.2, h⟩
 cases h
def RcX.g (x : RcX) : List Value := [.string x.n, .int .i64 x.t, .int .i64 x.c, .int .i64 x.ttl, .string x.d]
def layR : Lay RcX where
 g := RcX.g
 k := 5
 t := 69
 len _ := rfl
 pos := by decide
 plain _ := rfl
 inj x y h := by
  obtain ⟨n, t, c, l, d⟩ := x
  obtain ⟨n', t', c', l', d'⟩ := y
  simp only [RcX.g, aQ, Value.string.injEq, Value.int.injEq, true_and, and_true] at h
  obtain ⟨rfl, rfl, rfl, rfl, rfl⟩ := h; rfl
def bigR (n : Int) (x : RcX) : Bool := decide ((x.n.data.size : Int) > n) || decide ((x.d.data.size : Int) > n)
end
section
open Go Go.RowKit
noncomputable def inl_twos : Ct Try.prog 0 := Ct.inl (tbOf mixed [zOd]) mixed [] 71 Try.f71 Try.func71 (bodyOf Try.f71) (by kernel_rfl)
noncomputable def inl_rnone : Ct Try.prog 0 := Ct.inl (tbOf mixed [zOc]) mixed [] 68 Try.f68 Try.func68 (bodyOf Try.f68) (by kernel_rfl)
noncomputable def tbWr7 : Tb Try.prog 0 := tbOf mixed [inl_rnone, zHs, zQd, zKr, zOc, inl_twos, ct_put32, ct_write]
theorem zCy {n m : Int} (h : numB n m = true) : ∃ k : Nat, n = (k : Int) /\ (k : Int) <= m := by
 unfold numB at h
 have h := oT h
 exact ⟨n.toNat, by omega, by omega⟩
theorem zWb (en : Nat) (T : List (Bl × Nat)) : pnR en T (-1) (mkS [0]) true [] [] := ⟨by rw [zVx]; rfl, fun h => by cases h⟩
structure AskY where
 a : Int
 n : ByteArray
 t : Int
 c : Int
def AskY.xs (y : AskY) : List Value := [.int .i64 y.a, .agg #[.string y.n, .int .i64 y.t, .int .i64 y.c]]
theorem AskY.inj (y z : AskY) (h : y.xs = z.xs) : y = z := by
 obtain ⟨a, n, t, c⟩ := y
 obtain ⟨a', n', t', c'⟩ := z
 simp only [AskY.xs, aQ, Value.int.injEq, Value.agg.injEq, Array.mk.injEq, Value.string.injEq, true_and, and_true] at h
 obtain ⟨rfl, rfl, rfl, rfl⟩ := h; rfl
def AskY.D (en : Nat) (T : List (Bl × Nat)) (y : AskY) : Int × Bl × List (Bl × Nat) × Nat := askD en T y.a y.n y.t y.c
theorem ask_fn (y : AskY) (en : Nat) (T : List (Bl × Nat)) (ck : Nat) (hT : goodT T) (hs : shortB y.n = true) : PkFn 45 y.xs en T ck (y.D en T) := by
 obtain ⟨a, n, t, c⟩ := y
 have h1s : (Try.prog.types[5]).size = 1 := by kernel_rfl
 have hby : (Try.prog.types[5]).bytes = 1 := by kernel_rfl
 refine zBp mixed tbWr7 [1] Try.func45 (c := bodyOf Try.f45) (by kernel_rfl) ?_
 refine eI (⟨0, 1, en, T, ck, -1, mkS [0], true, [], []⟩ : PkX) (aI ⟨rfl, rfl, (show Tr.get _ 1 = some (AObj.map (encT T) ck) from rfl), hT, rfl, zWb en T⟩ ?_)
 refine aI hs ?_
 unfold AskY.D askD
 refine ifK (fun g => ?_) (fun g => ?_)
 ·have g : (labels (bs n)).2 ≠ 0 := by simpa using g
  rw [if_pos g]
  exact ⟨_, _, _, 0, rfl, fun h => ab rfl h, rfl, by rw [aF]; rfl⟩
 have g : ¬ (labels (bs n)).2 ≠ 0 := by simpa using g
 rw [if_neg g]
 refine ifK (fun g2 => ?_) (fun g2 => ?_)
 ·rw [show numB t 65535 = false by simpa using g2]
  exact ⟨_, _, _, 0, rfl, fun h => ab rfl h, rfl, by show some (AObj.map (encT T) ck) = _; simp⟩
 have k2 : numB t 65535 = true := by simpa using g2
 rw [k2]
 refine ifK (fun g3 => ?_) (fun g3 => ?_)
 ·rw [show numB c 65535 = false by simpa using g3]
  exact ⟨_, _, _, 0, rfl, fun h => ab rfl h, rfl, by show some (AObj.map (encT T) ck) = _; simp⟩
 have k3 : numB c 65535 = true := by simpa using g3
 clear g2 g3
 rw [k3, show (true && true) = true from rfl, if_pos rfl]
 by_cases he : pnE en a n ≠ 0
 ·rw [if_pos he]
  refine eI (⟨0, 1, en, T, ck, a, n, true, [], []⟩ : PkX) (aI ⟨rfl, rfl, (show Tr.get _ 1 = some (AObj.map (encT T) ck) from rfl), hT, hs, (aX he).symm, fun h => by cases h⟩ ?_)
  refine ifK (fun _ => ?_) (fun g => ab (show pnE en a n = 0 by simpa using g) he)
  exact ⟨_, _, _, 0, rfl, fun h => ab rfl h, rfl, by show some (AObj.map (encT T) ck) = _; simp⟩
 rw [if_neg he]
 have he0 : pnE en a n = 0 := Decidable.not_not.1 he
 obtain ⟨⟨p1, p2⟩, p3, p4, p5⟩ := zHf he0
 obtain ⟨r, hr⟩ : ∃ r, packN T a.toNat (bs n).length (bs n) 0 = r := ⟨_, rfl⟩
 have hl1 := zCv T a.toNat (bs n).length (bs n) 0
 rw [hr] at hl1 ⊢
 obtain ⟨o, F⟩ := r
 have hl1 : o.length <= 257 := by have : o.length <= (bs n).length + 2 := hl1; omega
 obtain ⟨t, rfl, ht⟩ := zCy k2
 obtain ⟨c, rfl, hc⟩ := zCy k3
 refine eI (⟨0, 1, en, T, ck, a, n, false, o, F⟩ : PkX) (aI ⟨rfl, rfl, (show Tr.get _ 1 = some (AObj.map (encT T) ck) from rfl), hT, hs, (aY he).symm, fun _ => hr⟩ ?_)
 refine eI t (aI ⟨rfl, by omega⟩ ?_)
 refine eI c (aI ⟨rfl, by omega⟩ ?_)
 refine aI (by kernel_rfl) ?_
 refine aI (by rw [h1s, hby]; simp only [bA, dT]; exact ⟨⟨⟨⟨⟨⟨rfl, rfl⟩, bL (by simp)⟩, rfl⟩, (by omega)⟩, (by omega)⟩, bL (by simp)⟩) ?_
 have hne : o ++ by2 t ++ by2 c ≠ [] := by simp [by2]
 have hv : sq 9 (o.length + (2 + 2)) U = ovN 9 (o ++ by2 t ++ by2 c) := by rw [ovN_ne 9 hne]; simp [by2]
 have hc : (List.take (o.length * 1) (o.map byV) ++ [byV (hi8 t), byV (lo8 t), byV (hi8 c), byV (lo8 c)]) = (o ++ by2 t ++ by2 c).map byV := by rw [aR, aD (by simp)]; simp [by2]
 refine ⟨_, _, _, 9, congrArg (fun v => Res.ret (.tuple #[v, .int .i64 0]) _ _ _) hv, fun _ => ⟨by decide, by decide, ?_⟩, rfl, rfl⟩
 exact congrArg (fun l => some (AObj.cells l _)) hc
structure WrtY where
 a : Int
 x : RcX
def WrtY.xs (y : WrtY) : List Value := [.int .i64 y.a, y.x.v]
theorem WrtY.inj (y z : WrtY) (h : y.xs = z.xs) : y = z := by
 obtain ⟨a, n, t, c, w, d⟩ := y
 obtain ⟨a', n', t', c', w', d'⟩ := z
 simp only [WrtY.xs, RcX.v, aQ, Value.int.injEq, Value.agg.injEq, Array.mk.injEq, Value.string.injEq, true_and, and_true] at h
 obtain ⟨rfl, rfl, rfl, rfl, rfl, rfl⟩ := h; rfl
def WrtY.D (en : Nat) (T : List (Bl × Nat)) (y : WrtY) : Int × Bl × List (Bl × Nat) × Nat := recD en T y.a y.x
theorem recD_pn {en : Nat} {T : List (Bl × Nat)} {a : Int} {x : RcX} (h : recC x = 0) (he : pnE en a x.n ≠ 0) : recD en T a x = (pnE en a x.n, [], [], en) := by
 obtain ⟨z1, z2, z3, z4, z5⟩ := zFs h
 unfold recD askD
 rw [if_neg (aL h), if_neg (aL z1), z2, z3, show (true && true) = true from rfl, if_pos rfl, if_pos he]
 simp only []
 rw [if_pos he]
theorem recD_ok {en : Nat} {T : List (Bl × Nat)} {k : Nat} {x : RcX} {o : Bl} {F : List (Bl × Nat)} (h : recC x = 0) (he : pnE en k x.n = 0) (hr : packN T k (bs x.n).length (bs x.n) 0 = (o, F)) {R : Int × Bl × List (Bl × Nat) × Nat} (hR : wrD (k + o.length) (T ++ F) ((k + (o.length + 8) + 2 : Nat) : Int) x.t (bs x.d) = R) :
  recD en T k x = if R.1 ≠ 0 then (R.1, [], F ++ R.2.2.1, R.2.2.2) else (0, (o ++ by2 x.t.toNat ++ by2 x.c.toNat ++ by4 x.ttl.toNat) ++ by2 R.2.1.length ++ R.2.1, F ++ R.2.2.1, R.2.2.2) := by
 obtain ⟨z1, z2, z3, z4, z5⟩ := zFs h
 have hl : (o ++ by2 x.t.toNat ++ by2 x.c.toNat ++ by4 x.ttl.toNat).length = o.length + 8 := by simp [by2, by4]
 unfold recD askD
 rw [if_neg (aL h), if_neg (aL z1), z2, z3, show (true && true) = true from rfl, if_pos rfl, if_neg (aL he), aO, hr]
 simp only []
 rw [if_neg (aL rfl), hl, hR]
theorem wrN_e (a : Int) {T : List (Bl × Nat)} : ∀ (ps : List (Bs × Bool)) (out : Bl) (F : List (Bl × Nat)) (en : Nat), (wrN a T ps out F en).1 ≠ 0 -> (wrN a T ps out F en).2.1 = []
 | [], _, _, _ => fun h => ab rfl h
 | (s, false) :: ps, out, F, en => by unfold wrN; exact wrN_e a ps _ _ _
 | (s, true) :: ps, out, F, en => by
  unfold wrN
  simp only []
  split
  ·exact fun _ => rfl
  exact wrN_e a ps _ _ _
theorem wrD_e {en : Nat} {T : List (Bl × Nat)} {a t : Int} {l : Bs} : (wrD en T a t l).1 ≠ 0 -> (wrD en T a t l).2.1 = [] := by
 unfold wrD
 split
 ·exact fun _ => rfl
 exact wrN_e _ _ _ _ _
theorem recw_fn (y : WrtY) (en : Nat) (T : List (Bl × Nat)) (ck : Nat) (hT : goodT T) (hs : y.x.ok = true) : PkFn 47 y.xs en T ck (y.D en T) := by
 obtain ⟨a, x⟩ := y
 have hs : x.ok = true := hs
 have h1s : (Try.prog.types[5]).size = 1 := by kernel_rfl
 have hby : (Try.prog.types[5]).bytes = 1 := by kernel_rfl
 obtain ⟨hn, hd⟩ := RcX.ok1 hs
 have hsh : shortB x.n = true := zDf (by omega)
 have hdh : shortB x.d = true := zDf (by omega)
 unfold WrtY.D
 obtain ⟨n, t, c, w, d⟩ := x
 have hd : (bs d).length <= 100000000 := hd
 refine zBp mixed tbWr7 [1, 12] Try.func47 (c := bodyOf Try.f47) (by kernel_rfl) ?_
 refine eI (⟨0, 1, en, T, ck, -1, mkS [0], true, [], []⟩ : PkX) (aI ⟨rfl, rfl, (show Tr.get _ 1 = some (AObj.map (encT T) ck) from rfl), hT, rfl, zWb en T⟩ ?_)
 refine aI hs ?_
 refine ifK (fun g => ?_) (fun g => ?_)
 ·have g : recC ⟨n, t, c, w, d⟩ ≠ 0 := by simpa using g
  unfold recD
  rw [if_pos g]
  exact ⟨_, _, _, 0, rfl, fun h => ab rfl h, rfl, by show some (AObj.map (encT T) ck) = _; simp⟩
 have gz : recC ⟨n, t, c, w, d⟩ = 0 := by simpa using g
 clear g
 by_cases he : pnE en a n ≠ 0
 ·refine eI (⟨0, 1, en, T, ck, a, n, true, [], []⟩ : PkX) (aI ⟨rfl, rfl, (show Tr.get _ 1 = some (AObj.map (encT T) ck) from rfl), hT, hsh, (aX he).symm, fun h => by cases h⟩ ?_)
  refine ifK (fun _ => ?_) (fun g => ab (show pnE en a n = 0 by simpa using g) he)
  have e1 : recD en T a ⟨n, t, c, w, d⟩ = _ := recD_pn gz he
  simp only [e1]
  exact ⟨_, _, _, 0, rfl, fun h => ab rfl h, rfl, by show some (AObj.map (encT T) ck) = _; simp⟩
 have he0 : pnE en a n = 0 := Decidable.not_not.1 he
 obtain ⟨⟨p1, p2⟩, p3, p4, p5⟩ := zHf he0
 obtain ⟨k, rfl⟩ : ∃ k : Nat, a = (k : Int) := ⟨a.toNat, by omega⟩
 obtain ⟨r, hr⟩ : ∃ r, packN T k (bs n).length (bs n) 0 = r := ⟨_, rfl⟩
 have hl1 := zCv T k (bs n).length (bs n) 0
 have hgd := zEh hT k (bs n).length (bs n) 0
 rw [hr] at hl1 hgd
 obtain ⟨o, F⟩ := r
 have hl1 : o.length <= 257 := by have : o.length <= (bs n).length + 2 := hl1; omega
 obtain ⟨R, hR⟩ : ∃ R, wrD (k + o.length) (T ++ F) ((k + (o.length + 8) + 2 : Nat) : Int) t (bs d) = R := ⟨_, rfl⟩
 have e1 : recD en T k ⟨n, t, c, w, d⟩ = _ := recD_ok gz he0 hr hR
 simp only [e1]
 obtain ⟨z1, z2, z3, z4, z5⟩ := zFs gz
 obtain ⟨t, rfl, ht⟩ := zCy z2
 obtain ⟨c, rfl, hc⟩ := zCy z3
 obtain ⟨w, rfl, hw⟩ := zCy z4
 have hle := wrD_le (en := k + o.length) (T := T ++ F) (a := ((k + (o.length + 8) + 2 : Nat) : Int)) (t := (t : Int)) (l := bs d)
 have hld := (zDz z5).2.2.1
 rw [hR] at hle
 obtain ⟨e2, o2, F2, en2⟩ := R
 have hl2 : o2.length <= 65535 := aW hle hld
 clear hle
 refine eI (⟨0, 1, en, T, ck, k, n, false, o, F⟩ : PkX) (aI ⟨rfl, rfl, (show Tr.get _ 1 = some (AObj.map (encT T) ck) from rfl), hT, hsh, (aY he).symm, fun _ => hr⟩ ?_)
 refine eI w (aI ⟨rfl, by omega⟩ ?_)
 refine eI t (aI ⟨rfl, by omega⟩ ?_)
 refine eI c (aI ⟨rfl, by omega⟩ ?_)
 refine aI (by kernel_rfl) ?_
 refine aI (by rw [h1s, hby]; simp only [bA, dT]; exact ⟨⟨⟨⟨⟨⟨rfl, rfl⟩, bL (by simp)⟩, rfl⟩, (by omega)⟩, (by omega)⟩, bL (by simp)⟩) ?_
 refine aI (by rw [h1s, hby]; simp only [bA, dT]; exact ⟨⟨⟨⟨⟨⟨rfl, rfl⟩, bL (by simp)⟩, rfl⟩, (by omega)⟩, (by omega)⟩, bL (by simp [by4])⟩) ?_
 have hat : IntKind.i64.wrap (IntKind.i64.wrap ((k : Int) + ((o.length + (2 + 2) + 4 : Nat) : Int)) + 2) = ((k + (o.length + 8) + 2 : Nat) : Int) := by
  have i1 : IntKind.i64.wrap ((k : Int) + ((o.length + (2 + 2) + 4 : Nat) : Int)) = ((k + (o.length + 8) : Nat) : Int) := by rw [wrapN (by omega) (by omega)]; omega
  rw [i1, wrapN (by omega) (by omega)]; omega
 have hm : (AObj.map (encT ((T ++ F) ++ F2)) (ck + F.length + F2.length)) = AObj.map (encT (T ++ (F ++ F2))) (ck + (F ++ F2).length) := by rw [aN, aB, Nat.add_assoc]
 refine eI (⟨0, 1, k + o.length, T ++ F, ck + F.length, ((k + (o.length + 8) + 2 : Nat) : Int), t, d, e2, o2, F2, en2⟩ : WrX) (aI ⟨by rw [<- hat] <;> rfl, rfl, (show Tr.get _ 1 = some (AObj.map (encT (T ++ F)) (ck + F.length)) from rfl), hgd, hdh, hR⟩ ?_)
 cases o2 with
 | nil =>
  refine ifK (fun h2 => ?_) (fun h2 => ?_)
  ·have h2 : e2 ≠ 0 := by simpa using h2
   rw [if_pos h2]
   exact ⟨_, _, _, 0, rfl, fun h => ab rfl h, rfl, congrArg some hm⟩
  have h2 : e2 = 0 := by simpa using h2
  subst h2
  rw [if_neg (aL rfl)]
  refine eI 0 (aI ⟨rfl, by decide⟩ ?_)
  refine aI (by rw [h1s, hby]; simp only [bA, dT]; exact ⟨⟨⟨⟨⟨⟨rfl, rfl⟩, bL (by simp [by4] <;> omega)⟩, rfl⟩, (by simp <;> omega)⟩, (by simp <;> omega)⟩, bL (by simp [by4] <;> omega)⟩) ?_
  have hne : (o ++ by2 t ++ by2 c ++ by4 w) ++ by2 0 ++ [] ≠ [] := by simp [by2]
  have hv : sq 15 (o.length + (2 + 2) + 4 + 2) U = ovN 15 ((o ++ by2 t ++ by2 c ++ by4 w) ++ by2 0 ++ []) := by rw [ovN_ne 15 hne]; simp [by2, by4]
  refine ⟨_, _, _, 15, congrArg (fun v => Res.ret (.tuple #[v, .int .i64 0]) _ _ _) hv, fun _ => ⟨by decide, by decide, ?_⟩, rfl, congrArg some hm⟩
  refine (show some (AObj.cells _ _) = some (AObj.cells _ _) from congrArg (fun l => some (AObj.cells l _)) ?_)
  simp [h1s, by2, by4, aD, List.take_append]
 | cons u us =>
  have h2 : e2 = 0 := by
   have := wrD_e (en := k + o.length) (T := T ++ F) (a := ((k + (o.length + 8) + 2 : Nat) : Int)) (t := (t : Int)) (l := bs d)
   rw [hR] at this
   exact Decidable.byContradiction fun h => by cases this h
  subst h2
  rw [if_neg (aL rfl)]
  have hle : us.length + 1 <= 65535 := hl2
  refine eI (us.length + 1) (aI ⟨rfl, by omega⟩ ?_)
  refine aI (by rw [h1s, hby]; simp only [bA, dT]; exact ⟨⟨⟨⟨⟨⟨rfl, rfl⟩, bL (by simp [by4] <;> omega)⟩, rfl⟩, (by simp <;> omega)⟩, (by simp <;> omega)⟩, bL (by simp [by4] <;> omega)⟩) ?_
  refine eI ((u :: us).map byV) (aI (zLy (l := u :: us) h1s rfl) ?_)
  have hone : oneL ((u :: us).map byV) = true := oneB _
  refine aI (by rw [h1s, hby]; simp only [bA, dT]; exact ⟨⟨⟨⟨⟨⟨rfl, rfl⟩, bL (by simp [by4] <;> omega)⟩, hone⟩, (by simp <;> omega)⟩, (by simp <;> omega)⟩, bL (by simp [by4] <;> omega)⟩) ?_
  have hne : (o ++ by2 t ++ by2 c ++ by4 w) ++ by2 (us.length + 1) ++ u :: us ≠ [] := by simp [by2]
  have hv : sq 17 (o.length + (2 + 2) + 4 + 2 + (us.length + 1)) U = ovN 17 ((o ++ by2 t ++ by2 c ++ by4 w) ++ by2 (us.length + 1) ++ u :: us) := by rw [ovN_ne 17 hne]; simp [by2, by4]; omega
  refine ⟨_, _, _, 17, congrArg (fun v => Res.ret (.tuple #[v, .int .i64 0]) _ _ _) hv, fun _ => ⟨by decide, by decide, ?_⟩, rfl, congrArg some hm⟩
  refine (show some (AObj.cells _ _) = some (AObj.cells _ _) from congrArg (fun l => some (AObj.cells l _)) ?_)
  simp [h1s, by2, by4, aD, List.take_append]
end
section
open Go Go.RowKit
theorem zIn {v : Nat} (h : v < 65536) : beN (by2 v) = v := by
 show (0 * 256 + (UInt8.ofNat (v / 256)).toNat) * 256 + (UInt8.ofNat (v % 256)).toNat = v
 simp; omega
theorem beN_by4 {v : Nat} (h : v < 4294967296) : beN (by4 v) = v := by
 show (((0 * 256 + (UInt8.ofNat (v / 2 ^ 24)).toNat) * 256 + (UInt8.ofNat (v / 2 ^ 16)).toNat) * 256 + (UInt8.ofNat (v / 2 ^ 8)).toNat) * 256 + (UInt8.ofNat (v / 2 ^ 0)).toNat = v
 simp; omega
theorem zHd {B W o X Y : Bl} {a : Nat} (hb : (B.drop a).take W.length = W) (hW : W = o ++ X ++ Y) {k z : Nat} (hk : k = a + o.length) (hz : z = X.length) : numAt B k z = beN X := by
 subst hk; subst hz
 unfold numAt; rw [zHy hb hW]
theorem rr_of {B : Bl} {a e : Nat} {s : Bl} (h : Nw B a a s e) (hl : s.length <= 255) (ha : a <= B.length) : rdOk B (a : Int) ⟨s, (e : Int), 0, 0⟩ := by
 have := h.rd (a := a) [] (-1) (by simpa using hl)
 rw [if_pos (by decide), List.nil_append] at this
 exact .inr ⟨a, rfl, ha, this⟩
def quV (x : RcX) (m : Nat) : Value := .tuple #[.agg #[.string x.n, .int .i64 x.t, .int .i64 x.c], .int .i64 (m : Int), .agg #[.int .i64 0, .int .i64 0]]
def rcV (x : RcX) (m : Nat) : Value := .tuple #[x.v, .int .i64 (m : Int), .agg #[.int .i64 0, .int .i64 0]]
theorem zQz {en a : Nat} {T : List (Bl × Nat)} {n : ByteArray} (hn : (labels (bs n)).2 = 0) (hen : en <= a) (ha : a <= 65535) : pnE en a n = 0 /\ ∃ o F, packN T a (bs n).length (bs n) 0 = (o, F) /\ 1 <= o.length /\ o.length <= 255 /\ (bs n).length <= 255 /\
  (∀ B : Bl, a + o.length <= B.length -> (B.drop a).take o.length = o -> knowsN B T a -> rdOk B (a : Int) ⟨bs n, ((a + o.length : Nat) : Int), 0, 0⟩ /\ knowsN B (T ++ F) (a + o.length)) := by
 obtain ⟨hN, hl⟩ := (zCe (bs n)).1 hn
 refine ⟨?_, _, _, rfl, ?_, ?_, hl, fun B hB hb hK => ?_⟩
 ·unfold pnE
  rw [if_neg (aL hn), if_neg (by omega), if_neg (by omega)]
 ·have := zPb T a (bs n).length (bs n) 0 hN.pos
  exact List.length_pos_iff.2 this
 ·exact aW (zKe T a _ _ _ hN) hl
 obtain ⟨n1, n2⟩ := zPc hK (bs n).length (bs n) 0 hN (aJ _) hB hb
 exact ⟨rr_of n1 hl (by omega), zNc hK (by omega) (fun u k hm => by obtain ⟨_, k2, k3, k4⟩ := n2 u k hm; exact ⟨k2, k3, k4⟩)⟩
theorem zVz {B o X : Bl} {a : Nat} (hb : (B.drop a).take (o ++ X).length = o ++ X) : (B.drop a).take o.length = o := by
 have := zHy (o := []) (X := o) (Y := X) hb (by simp)
 simpa using this
end
section
open Go Go.RowKit
theorem zUk {a : Nat} {T : List (Bl × Nat)} : ∀ (ps : List (Bs × Bool)) (out : Bl) (F : List (Bl × Nat)) (en : Nat), (∀ s, (s, true) ∈ ps -> (labels s).2 = 0 /\ s.length <= 255) -> en <= a + out.length -> a + out.length + sumL ps <= 1099511627776 -> (wrN (a : Int) T ps out F en).1 = 0 -> (wrN (a : Int) T ps out F en).2.2.2 <= a + (wrN (a : Int) T ps out F en).2.1.length
 | [], out, F, en, _, he, _, _ => he
 | (s, false) :: ps, out, F, en, hs, he, hl, h0 => by
  unfold wrN at h0 ⊢
  simp only [sumL, List.flatMap_cons, aB] at hl
  exact zUk ps _ _ _ (fun s h => hs s (List.mem_cons_of_mem _ h)) (by simp; omega) (by simp only [sumL, aB]; omega) h0
 | (s, true) :: ps, out, F, en, hs, he, hl, h0 => by
  unfold wrN at h0 ⊢
  simp only [sumL, List.flatMap_cons, aB] at hl
  obtain ⟨h1, h2⟩ := hs s (List.mem_cons_self ..)
  simp only [wrapA (show a + out.length < 9223372036854775807 by omega)] at h0 ⊢
  by_cases hp : pnE en ((a + out.length : Nat) : Int) (mkS s) = 0
  ·rw [if_neg (aL hp), aO] at h0 ⊢
   have l1 := zKe (T ++ F) (a + out.length) s.length s 0 ((zCe s).1 h1).1
   exact zUk ps _ _ _ (fun s h => hs s (List.mem_cons_of_mem _ h)) (by simp; omega) (by simp only [sumL, aB]; omega) h0
  rw [if_pos hp] at h0; exact ab h0 hp
theorem wrD_back0 {a en : Nat} {T : List (Bl × Nat)} {t : Int} {l : Bs} (hck : checkD t l = 0) (hen : en <= a) (hal : a + l.length <= 1099511627776) {W : Bl} {F : List (Bl × Nat)} {en' : Nat} (hD : wrD en T (a : Int) t l = (0, W, F, en')) : W.length <= l.length /\ en' <= a + W.length /\
  (∀ B : Bl, a + W.length <= B.length -> B.length < 9223372036854775807 -> (B.drop a).take W.length = W -> knowsN B T a -> rdQ B (a : Int) (W.length : Int) t (l, 0, 0) /\ knowsN B (T ++ F) (a + W.length)) := by
 have hWl := wrD_le (en := en) (T := T) (a := (a : Int)) (t := t) (l := l)
 rw [hD] at hWl
 have hWl : W.length <= l.length := hWl
 obtain ⟨k1, k2, k3, k4⟩ := zLm hck
 obtain ⟨c1, c2, c3, c4⟩ := zDz hck
 unfold wrD at hD
 rw [if_neg (aL hck)] at hD
 have o2 := zUk (a := a) (T := T) (pcsD t l) [] [] en k1 (by simpa using hen) (by simp; omega) (by rw [hD])
 rw [hD] at o2
 have o1 : ((0 : Int), W, F, en').1 = 0 := rfl
 refine ⟨hWl, o2, fun B hB hBl hb hK => ?_⟩
 unfold rdQ
 rw [if_neg (by omega), if_neg (by omega), if_neg (by omega)]
 unfold pcsD at hD
 cases hp : ptsT t with
 | none =>
  rw [hp] at hD
  simp only [wrN, List.nil_append, Prod.mk.injEq] at hD
  obtain ⟨_, rfl, rfl, _⟩ := hD
  refine ⟨?_, by rw [aF]; exact hK.mono (by omega)⟩
  simp only [aO, hb]
 | some ps =>
  rw [hp] at hD
  simp only [] at hD ⊢
  obtain ⟨o, q1, q2⟩ := zOn hp c4
  have eo : outP t l = o := by unfold outP; rw [q2]
  rw [eo] at hD
  obtain ⟨_, w2⟩ := zOf _ _ _ _ q1
  rw [aF] at w2
  rcases (zLo hp).2 with ⟨hs, _⟩ | rfl
  ·have := wrN_rd (t := t) hB hBl hb (a : Int) ps l o [] [] [] en [] _ q1 hs hD o1 rfl (by rw [aF]; exact hK) (by rw [List.nil_append, w2]; exact hck)
   rw [List.nil_append, w2, show ((a + ([] : Bl).length : Nat) : Int) = (a : Int) by simp] at this
   rw [show ((a : Int) + (W.length : Int)) = ((a + W.length : Nat) : Int) by omega]
   exact this
  simp only [cuts, Option.map_eq_some_iff] at q1
  cases hq : Pt.rest.cut l with
  | none => rw [hq] at q1; cases q1
  | some n =>
   rw [hq] at q1
   simp only [Option.map_some, aP, Prod.mk.injEq] at q1
   have hn : n = l.length := by
    simp only [Pt.cut] at hq
    split at hq <;> cases hq; rfl
   subst hn
   rw [List.take_length] at q1
   obtain ⟨rfl, _⟩ := q1
   have hD : wrN (a : Int) T [(l, false)] [] [] en = (0, W, F, en') := hD
   simp only [wrN, List.nil_append, Prod.mk.injEq] at hD
   obtain ⟨_, rfl, rfl, _⟩ := hD
   refine ⟨.rest ?_, by rw [aF]; exact hK.mono (by omega)⟩
   have e2 : (B.drop ((a : Int)).toNat).take (((a : Int) + (l.length : Int)).toNat - ((a : Int)).toNat) = l := by
    rw [show ((a : Int) + (l.length : Int)).toNat - ((a : Int)).toNat = l.length by omega, aO]; exact hb
   rw [e2, List.nil_append]
   exact .fin rfl hck
theorem rec_back0 {en a : Nat} {T : List (Bl × Nat)} {x : RcX} (hx : recC x = 0) (hen : en <= a) (ha : a <= 65535) {W : Bl} {F : List (Bl × Nat)} {en' : Nat} (hD : recD en T (a : Int) x = (0, W, F, en')) : W ≠ [] /\ W.length <= 300 + (bs x.d).length /\ en' <= a + W.length /\
  (∀ B : Bl, a + W.length <= B.length -> B.length < 9223372036854775807 -> (B.drop a).take W.length = W -> knowsN B T a -> recQ B (a : Int) (rcV x (a + W.length)) /\ (∃ m, queQ B (a : Int) (quV x m)) /\ knowsN B (T ++ F) (a + W.length)) := by
 obtain ⟨z1, z2, z3, z4, z5⟩ := zFs hx
 obtain ⟨hp, o, G, hr, ho1, ho2, hn, hB⟩ := zQz (en := en) (T := T) z1 hen ha
 obtain ⟨R, hR⟩ : ∃ R, wrD (a + o.length) (T ++ G) ((a + (o.length + 8) + 2 : Nat) : Int) x.t (bs x.d) = R := ⟨_, rfl⟩
 rw [recD_ok hx hp hr hR] at hD
 obtain ⟨e2, D, F2, en2⟩ := R
 have d1 : e2 = 0 := by
  by_cases h : e2 = 0
  ·exact h
  rw [if_pos h] at hD; simp only [Prod.mk.injEq] at hD; exact ab hD.1 h
 subst d1
 have hdl : (bs x.d).length <= 65535 := (zLm z5).2.2.2
 obtain ⟨d2, d3, d4⟩ := wrD_back0 z5 (show a + o.length <= a + (o.length + 8) + 2 by omega) (by omega) hR
 rw [if_neg (aL rfl)] at hD
 obtain ⟨t, ht, ht2⟩ := zCy z2
 obtain ⟨c, hc, hc2⟩ := zCy z3
 obtain ⟨w, hw, hw2⟩ := zCy z4
 simp only [Prod.mk.injEq, ht, hc, hw, aO] at hD
 obtain ⟨_, rfl, rfl, rfl⟩ := hD
 have hl : ((o ++ by2 t ++ by2 c ++ by4 w) ++ by2 D.length ++ D).length = o.length + 10 + D.length := by simp [by2, by4]; omega
 refine ⟨by simp [by2], by rw [hl]; omega, by rw [hl]; omega, fun B hBl hBm hb hK => ?_⟩
 rw [hl] at hBl
 obtain ⟨r1, r2⟩ := hB B (by omega) (zVz (X := by2 t ++ by2 c ++ by4 w ++ by2 D.length ++ D) (by simpa [aN] using hb)) hK
 have n1 : numAt B (a + o.length) 2 = t := by
  rw [show numAt B (a + o.length) 2 = beN (by2 t) from zHd hb (o := o) (X := by2 t) (Y := by2 c ++ by4 w ++ by2 D.length ++ D) (by simp) rfl rfl]
  exact zIn (by omega)
 have n2 : numAt B (a + o.length + 2) 2 = c := by
  rw [show numAt B (a + o.length + 2) 2 = beN (by2 c) from zHd hb (o := o ++ by2 t) (X := by2 c) (Y := by4 w ++ by2 D.length ++ D) (by simp) (by simp [by2]; omega) rfl]
  exact zIn (by omega)
 have n3 : numAt B (a + o.length + 4) 4 = w := by
  rw [show numAt B (a + o.length + 4) 4 = beN (by4 w) from zHd hb (o := o ++ by2 t ++ by2 c) (X := by4 w) (Y := by2 D.length ++ D) (by simp) (by simp [by2]; omega) rfl]
  exact beN_by4 (by omega)
 have n4 : numAt B (a + o.length + 8) 2 = D.length := by
  rw [show numAt B (a + o.length + 8) 2 = beN (by2 D.length) from zHd hb (o := o ++ by2 t ++ by2 c ++ by4 w) (X := by2 D.length) (Y := D) rfl (by simp [by2, by4]; omega) rfl]
  exact zIn (by omega)
 have e0 : a + (o.length + 8) + 2 = a + o.length + 10 := by omega
 have hbD : (B.drop (a + (o.length + 8) + 2)).take D.length = D := by
  have := zHy (o := o ++ by2 t ++ by2 c ++ by4 w ++ by2 D.length) (X := D) (Y := []) hb (by simp)
  rw [show a + (o ++ by2 t ++ by2 c ++ by4 w ++ by2 D.length).length = a + (o.length + 8) + 2 by simp [by2, by4]; omega] at this
  exact this
 obtain ⟨q1, q2⟩ := d4 B (by omega) hBm hbD (r2.mono (by omega))
 refine ⟨?_, ⟨a + o.length + 4, ?_⟩, ?_⟩
 ·have hy : rdQ B ((a + o.length + 10 : Nat) : Int) (numAt B (a + o.length + 8) 2 : Int) (numAt B (a + o.length) 2 : Int) (bs x.d, 0, 0) := by
   rw [n1, n4, <- e0, <- ht]; exact q1
  have := recQ.fine (k := a + o.length) r1 rfl rfl (by omega) hy rfl
  rw [n1, n2, n3, n4] at this
  unfold zTu at this
  rw [zNl, zNl, if_neg (by omega)] at this
  unfold rcV RcX.v
  rw [ht, hc, hw, hl]
  have e1 : ((a + o.length + 10 : Nat) : Int) + (D.length : Int) = ((a + (o.length + 10 + D.length) : Nat) : Int) := by omega
  rw [e1] at this
  exact this
 ·have := queQ.fine (k := a + o.length) r1 rfl rfl (by omega)
  rw [n1, n2] at this
  unfold zTs at this
  rw [zNl] at this
  unfold quV
  rw [ht, hc]
  exact this
 rw [<- aN]
 refine q2.mono (by rw [hl]; omega)
end
section
open Go Go.RowKit
end
section
open Go Go.RowKit
deriving instance DecidableEq for RcX
structure QuX where
 n : ByteArray
 t : Int
 c : Int
 deriving DecidableEq
def QuX.g (x : QuX) : List Value := [.string x.n, .int .i64 x.t, .int .i64 x.c]
def layQ : Lay QuX where
 g := QuX.g
 k := 3
 t := 57
 len _ := rfl
 pos := by decide
 plain _ := rfl
 inj x y h := by
  obtain ⟨n, t, c⟩ := x
  obtain ⟨n', t', c'⟩ := y
  simp only [QuX.g, aQ, Value.string.injEq, Value.int.injEq, true_and, and_true] at h
  obtain ⟨rfl, rfl, rfl⟩ := h; rfl
theorem struct_q : structOk Try.prog 57 = true := by kernel_rfl
theorem struct_r : structOk Try.prog 69 = true := by kernel_rfl
def bigQ (y : Int) (x : QuX) : Bool := decide ((x.n.data.size : Int) > y)
end
section
open Go Go.RowKit
noncomputable def tbTk : Tb Try.prog 0 := tbOf mixed []
abbrev trR (l : List RcX) : Value := treeV 5 l.length (l.flatMap layR.g)
abbrev trQ (l : List QuX) : Value := treeV 3 l.length (l.flatMap layQ.g)
theorem sameQ_tr (l1 l2 : List QuX) (hl : l1.length <= 9223372036854775807) : ∃ r, FnS Try.prog 0 32 [trQ l1, trQ l2] .e 0 r /\ ∃ H m wr, r = .ret (.bool (decide (l1 = l2))) H m wr := by
 refine zBp mixed tbTk [] Try.func32 (c := bodyOf Try.f32) (by kernel_rfl) ?_
 refine ifK (fun g => ?_) (fun g => ?_)
 ·have e : decide (l1 = l2) = false := aY (fun e => by subst e; simp at g)
  rw [e]; exact ⟨_, _, _, rfl⟩
 have hlen : l1.length = l2.length := by
  have hz : (l1.length : Int) = l2.length := by simpa using g
  omega
 refine zAr (fun (i : Nat) f => ⟨slots 6 [(0, trQ l1), (1, trQ l2), (5, .int .i64 (i : Nat))] f, heap 0 [], 0, [], []⟩) (fun i => l1.length - i) (fun i => i <= l1.length /\ l1.take i = l2.take i) 0 ⟨aH _, rfl⟩ (rcq [] ⟨⟨_, rfl, zAh 8 rfl⟩, ⟨_, rfl, zAh 8 rfl⟩, (sI rfl), tv⟩ trivial .nil) ?_
 rintro i f ⟨hi, heq⟩
 refine zAt tbTk [] 0 _ none mixed _ _ _ ?_
 refine ifK (fun h1 => ?_) (fun h1 => ?_)
 ·have h1 : i < l1.length := by have := oT h1; omega
  have h2 : i < l2.length := by omega
  refine aI (by kernel_rfl) ?_
  refine ifK (fun _ => ?_) (fun h2 => ab h2 (by simp [inI]; omega))
  refine eI l1[i].n (eI l1[i].t (eI l1[i].c (aI (zCm layQ h1) ?_)))
  refine ifK (fun _ => ?_) (fun h2 => ab h2 (by simp [inI]; omega))
  refine eI l2[i].n (eI l2[i].t (eI l2[i].c (aI (zCm layQ h2) ?_)))
  refine aI struct_q ?_
  refine ifK (fun h3 => ?_) (fun h3 => ?_)
  ·have e : decide (l1 = l2) = false := aY (fun e => by
    have he : l1[i] = l2[i] := zQs h1 h2 e
    rw [he] at h3; simp at h3)
   refine aI rfl (zAj (rcq [] (d := 6) (d2 := 0) (lv := [(4, .bool false)]) (bs := []) (W := []) (m := 0) (df := []) ⟨⟨_, rfl, zAm 8 rfl⟩, tv⟩ trivial .nil) (fun f => ?_))
   rw [e]; exact ⟨_, _, _, rfl⟩
  refine ⟨i + 1, ⟨h1, zRv h1 h2 heq ?_⟩, by omega, rcq [] ⟨⟨_, rfl, zAh 8 rfl⟩, ⟨_, rfl, zAh 8 rfl⟩, zAc rfl (by rw [wrapN (by omega) (by omega)]; omega), tv⟩ trivial .nil⟩
  simp only [Bool.not_eq_false', bA, beq_iff_eq, Bool.and_true] at h3
  obtain ⟨q0, q1, q2⟩ := h3
  cases hx : l1[i] with | mk x0 x1 x2 =>
  cases hy : l2[i] with | mk y0 y1 y2 =>
  rw [hx, hy] at q0 q1 q2
  simp only at q0 q1 q2
  rw [zUg q0, q1, q2]
 have h1 : ¬ i < l1.length := by have := oF h1; omega
 have e : decide (l1 = l2) = true := aX (by
  have := heq
  rwa [aD (by omega), aD (by omega)] at this)
 refine aI rfl (zAj (rcq [] (d := 6) (d2 := 0) (lv := []) (bs := []) (W := []) (m := 0) (df := []) trivial trivial .nil) (fun f => ?_))
 rw [e]; exact ⟨_, _, _, rfl⟩
theorem sameRs_tr (l1 l2 : List RcX) (hl : l1.length <= 9223372036854775807) : ∃ r, FnS Try.prog 0 58 [trR l1, trR l2] .e 0 r /\ ∃ H m wr, r = .ret (.bool (decide (l1 = l2))) H m wr := by
 refine zBp mixed tbTk [] Try.func58 (c := bodyOf Try.f58) (by kernel_rfl) ?_
 refine ifK (fun g => ?_) (fun g => ?_)
 ·have e : decide (l1 = l2) = false := aY (fun e => by subst e; simp at g)
  rw [e]; exact ⟨_, _, _, rfl⟩
 have hlen : l1.length = l2.length := by
  have hz : (l1.length : Int) = l2.length := by simpa using g
  omega
 refine zAr (fun (i : Nat) f => ⟨slots 6 [(0, trR l1), (1, trR l2), (5, .int .i64 (i : Nat))] f, heap 0 [], 0, [], []⟩) (fun i => l1.length - i) (fun i => i <= l1.length /\ l1.take i = l2.take i) 0 ⟨aH _, rfl⟩ (rcq [] ⟨⟨_, rfl, zAh 8 rfl⟩, ⟨_, rfl, zAh 8 rfl⟩, (sI rfl), tv⟩ trivial .nil) ?_
 rintro i f ⟨hi, heq⟩
 refine zAt tbTk [] 0 _ none mixed _ _ _ ?_
 refine ifK (fun h1 => ?_) (fun h1 => ?_)
 ·have h1 : i < l1.length := by have := oT h1; omega
  have h2 : i < l2.length := by omega
  refine aI (by kernel_rfl) ?_
  refine ifK (fun _ => ?_) (fun h2 => ab h2 (by simp [inI]; omega))
  refine eI l1[i].n (eI l1[i].t (eI l1[i].c (eI l1[i].ttl (eI l1[i].d (aI (zCm layR h1) ?_)))))
  refine ifK (fun _ => ?_) (fun h2 => ab h2 (by simp [inI]; omega))
  refine eI l2[i].n (eI l2[i].t (eI l2[i].c (eI l2[i].ttl (eI l2[i].d (aI (zCm layR h2) ?_)))))
  refine aI struct_r ?_
  refine ifK (fun h3 => ?_) (fun h3 => ?_)
  ·have e : decide (l1 = l2) = false := aY (fun e => by
    have he : l1[i] = l2[i] := zQs h1 h2 e
    rw [he] at h3; simp at h3)
   refine aI rfl (zAj (rcq [] (d := 6) (d2 := 0) (lv := [(4, .bool false)]) (bs := []) (W := []) (m := 0) (df := []) ⟨⟨_, rfl, zAm 8 rfl⟩, tv⟩ trivial .nil) (fun f => ?_))
   rw [e]; exact ⟨_, _, _, rfl⟩
  refine ⟨i + 1, ⟨h1, zRv h1 h2 heq ?_⟩, by omega, rcq [] ⟨⟨_, rfl, zAh 8 rfl⟩, ⟨_, rfl, zAh 8 rfl⟩, zAc rfl (by rw [wrapN (by omega) (by omega)]; omega), tv⟩ trivial .nil⟩
  simp only [Bool.not_eq_false', bA, beq_iff_eq, Bool.and_true] at h3
  obtain ⟨q0, q1, q2, q3, q4⟩ := h3
  cases hx : l1[i] with | mk x0 x1 x2 x3 x4 =>
  cases hy : l2[i] with | mk y0 y1 y2 y3 y4 =>
  rw [hx, hy] at q0 q1 q2 q3 q4
  simp only at q0 q1 q2 q3 q4
  rw [zUg q0, q1, q2, q3, zUg q4]
 have h1 : ¬ i < l1.length := by have := oF h1; omega
 have e : decide (l1 = l2) = true := aX (by
  have := heq
  rwa [aD (by omega), aD (by omega)] at this)
 refine aI rfl (zAj (rcq [] (d := 6) (d2 := 0) (lv := []) (bs := []) (W := []) (m := 0) (df := []) trivial trivial .nil) (fun f => ?_))
 rw [e]; exact ⟨_, _, _, rfl⟩
noncomputable def ct_sameQT : Ct Try.prog 0 := CtR.tree 32 (List QuX × List QuX) (fun x => [trQ x.1, trQ x.2]) (fun x => x.1.length <= 9223372036854775807) (fun x => .bool (decide (x.1 = x.2))) (fun a b h => by simp only [aQ, and_true] at h; exact Prod.ext (zCf layQ h.1) (zCf layQ h.2)) (fun _ => rfl)
 (fun x hl => by obtain ⟨r, hF, H, m, wr, rfl⟩ := sameQ_tr x.1 x.2 hl; exact ⟨_, _, _, _, hF, .one _ _ (.plain _ rfl)⟩)
noncomputable def zXa : Ct Try.prog 0 := CtR.tree 58 (List RcX × List RcX) (fun x => [trR x.1, trR x.2]) (fun x => x.1.length <= 9223372036854775807) (fun x => .bool (decide (x.1 = x.2))) (fun a b h => by simp only [aQ, and_true] at h; exact Prod.ext (zCf layR h.1) (zCf layR h.2)) (fun _ => rfl)
 (fun x hl => by obtain ⟨r, hF, H, m, wr, rfl⟩ := sameRs_tr x.1 x.2 hl; exact ⟨_, _, _, _, hF, .one _ _ (.plain _ rfl)⟩)
theorem zWs (l : List RcX) (n : Int) (hl : l.length <= 9223372036854775807) : ∃ r, FnS Try.prog 0 59 [trR l, .int .i64 n] .e 0 r /\ ∃ H m wr, r = .ret (.bool (l.any (bigR n))) H m wr := by
 refine zBp mixed tbTk [] Try.func59 (c := bodyOf Try.f59) (by kernel_rfl) ?_
 refine zAr (fun (i : Nat) f => ⟨slots 6 [(0, trR l), (1, .int .i64 n), (5, .int .i64 (i : Nat))] f, heap 0 [], 0, [], []⟩) (fun i => l.length - i) (fun i => i <= l.length /\ l.any (bigR n) = (l.drop i).any (bigR n)) 0 ⟨aH _, rfl⟩ (rcq [] ⟨⟨_, rfl, zAh 8 rfl⟩, (sI rfl), (sI rfl), tv⟩ trivial .nil) ?_
 rintro i f ⟨hi, heq⟩
 refine zAt tbTk [] 0 _ none mixed _ _ _ ?_
 refine ifK (fun h1 => ?_) (fun h1 => ?_)
 ·have h1 : i < l.length := by have := oT h1; omega
  have hst : (l.drop i).any (bigR n) = (bigR n l[i] || (l.drop (i + 1)).any (bigR n)) := by rw [bD h1]; rfl
  rw [hst] at heq
  refine ifK (fun _ => ?_) (fun h2 => ab h2 (by simp [inI]; omega))
  refine eI l[i].n (eI l[i].t (eI l[i].c (eI l[i].ttl (eI l[i].d (aI (zCm layR h1) ?_)))))
  refine ifK (fun h2 => ?_) (fun h2 => ?_)
  ·have e : l.any (bigR n) = true := by rw [heq]; unfold bigR; rw [h2]; rfl
   refine aI rfl (zAj (rcq [] (d := 6) (d2 := 0) (lv := [(4, .bool true)]) (bs := []) (W := []) (m := 0) (df := []) ⟨⟨_, rfl, zAm 8 rfl⟩, tv⟩ trivial .nil) (fun f => ?_))
   rw [e]; exact ⟨_, _, _, rfl⟩
  refine ifK (fun _ => ?_) (fun h3 => ab h3 (by simp [inI]; omega))
  refine eI l[i].n (eI l[i].t (eI l[i].c (eI l[i].ttl (eI l[i].d (aI (zCm layR h1) ?_)))))
  refine ifK (fun h3 => ?_) (fun h3 => ?_)
  ·have e : l.any (bigR n) = true := by rw [heq]; unfold bigR; rw [h3]; simp
   refine aI rfl (zAj (rcq [] (d := 6) (d2 := 0) (lv := [(4, .bool true)]) (bs := []) (W := []) (m := 0) (df := []) ⟨⟨_, rfl, zAm 8 rfl⟩, tv⟩ trivial .nil) (fun f => ?_))
   rw [e]; exact ⟨_, _, _, rfl⟩
  refine ⟨i + 1, ⟨h1, ?_⟩, by omega, rcq [] ⟨⟨_, rfl, zAh 8 rfl⟩, (sI rfl), zAc rfl (by rw [wrapN (by omega) (by omega)]; omega), tv⟩ trivial .nil⟩
  rw [heq]; unfold bigR; rw [h2, h3]; rfl
 have h1 : ¬ i < l.length := by have := oF h1; omega
 have e : l.any (bigR n) = false := by rw [heq, bE (by omega)]; rfl
 refine aI rfl (zAj (rcq [] (d := 6) (d2 := 0) (lv := []) (bs := []) (W := []) (m := 0) (df := []) trivial trivial .nil) (fun f => ?_))
 rw [e]; exact ⟨_, _, _, rfl⟩
noncomputable def zSr : Ct Try.prog 0 := CtR.tree 59 (List RcX × Int) (fun x => [trR x.1, .int .i64 x.2]) (fun x => x.1.length <= 9223372036854775807) (fun x => .bool (x.1.any (bigR x.2))) (fun a b h => by simp only [aQ, Value.int.injEq, true_and, and_true] at h; exact Prod.ext (zCf layR h.1) h.2) (fun _ => rfl)
 (fun x hl => by obtain ⟨r, hF, H, m, wr, rfl⟩ := zWs x.1 x.2 hl; exact ⟨_, _, _, _, hF, .one _ _ (.plain _ rfl)⟩)
structure MsT where
 id : Int
 fl : Int
 q : List QuX
 an : List RcX
 ns : List RcX
 ar : List RcX
def MsT.cs (m : MsT) : List Value := [.int .i64 m.id, .int .i64 m.fl, trQ m.q, trR m.an, trR m.ns, trR m.ar]
def MsT.v (m : MsT) : Value := .agg #[.int .i64 m.id, .int .i64 m.fl, trQ m.q, trR m.an, trR m.ns, trR m.ar]
theorem MsT.v_inj {m m' : MsT} (h : m.v = m'.v) : m = m' := by
 obtain ⟨id, fl, q, an, ns, ar⟩ := m
 obtain ⟨id', fl', q', an', ns', ar'⟩ := m'
 simp only [MsT.v, Value.agg.injEq, Array.mk.injEq, aQ, Value.int.injEq, true_and, and_true] at h
 obtain ⟨rfl, rfl, h1, h2, h3, h4⟩ := h
 rw [zCf layQ h1, zCf layR h2, zCf layR h3, zCf layR h4]
def MsT.fit (m : MsT) (k : Nat) : Prop := m.q.length <= k /\ m.an.length <= k /\ m.ns.length <= k /\ m.ar.length <= k
def MsT.len (m : MsT) : Int := IntKind.i64.wrap (IntKind.i64.wrap (IntKind.i64.wrap ((m.q.length : Int) + (m.an.length : Int)) + (m.ns.length : Int)) + (m.ar.length : Int))
def MsT.big (m : MsT) (n y : Int) : Bool := decide (m.len > n) || (m.q.any (bigQ y) || (m.an.any (bigR y) || (m.ns.any (bigR y) || m.ar.any (bigR y))))
noncomputable def tbTk2 : Tb Try.prog 0 := tbOf mixed [zSr]
theorem bigMs_tr (m : MsT) (n y : Int) (hf : m.fit 9223372036854775807) : ∃ r, FnS Try.prog 0 31 [m.v, .int .i64 n, .int .i64 y] .e 0 r /\ ∃ H k wr, r = .ret (.bool (m.big n y)) H k wr := by
 obtain ⟨id, fl, q, an, ns, ar⟩ := m
 obtain ⟨f1, f2, f3, f4⟩ := hf
 have f1 : q.length <= 9223372036854775807 := f1
 refine zBp mixed tbTk2 [] Try.func31 (c := bodyOf Try.f31) (by kernel_rfl) ?_
 unfold MsT.big
 refine ifK (fun g => ?_) (fun g => ?_)
 ·have e : decide (MsT.len ⟨id, fl, q, an, ns, ar⟩ > n) = true := g
  rw [e]; exact ⟨_, _, _, rfl⟩
 have e0 : decide (MsT.len ⟨id, fl, q, an, ns, ar⟩ > n) = false := g
 rw [e0, Bool.false_or]
 refine zAr (fun (i : Nat) f => ⟨slots 6 [(2, .int .i64 y), (3, .pointer (some ⟨0, 0, none⟩)), (7, .int .i64 (i : Nat))] f, heap 1 [(0, .cells (MsT.cs ⟨id, fl, q, an, ns, ar⟩) 25)], 1, [], []⟩) (fun i => q.length - i) (fun i => i <= q.length /\ q.any (bigQ y) = (q.drop i).any (bigQ y)) 0 ⟨aH _, rfl⟩
  (rcq [0] ⟨(sI rfl), (sP rfl rfl), (sI rfl), tv⟩ ⟨⟨by decide, _, rfl, RO.clos rfl⟩, tv⟩ .nil) ?_
 rintro i f ⟨hi, heq⟩
 refine zAt tbTk2 [] 0 _ none mixed _ _ _ ?_
 refine ifK (fun h1 => ?_) (fun h1 => ?_)
 ·have h1 : i < q.length := by have h1 : ((i : Nat) : Int) < (q.length : Int) := oT h1; omega
  have hst : (q.drop i).any (bigQ y) = (bigQ y q[i] || (q.drop (i + 1)).any (bigQ y)) := by rw [bD h1]; rfl
  rw [hst] at heq
  refine ifK (fun _ => ?_) (fun h2 => ab h2 (by simp [inI]; omega))
  refine eI q[i].n (eI q[i].t (eI q[i].c (aI (zCm layQ h1) ?_)))
  refine ifK (fun h2 => ?_) (fun h2 => ?_)
  ·have e : q.any (bigQ y) = true := by rw [heq]; unfold bigQ; rw [h2]; rfl
   refine aI rfl (zAj (rcq [] (d := 6) (d2 := 0) (lv := [(6, .bool true)]) (bs := []) (W := []) (m := 0) (df := []) ⟨⟨_, rfl, zAm 8 rfl⟩, tv⟩ trivial .nil) (fun f => ?_))
   rw [e]; exact ⟨_, _, _, rfl⟩
  refine ⟨i + 1, ⟨h1, ?_⟩, by show q.length - (i + 1) < q.length - i; omega, rcq [0] ⟨(sI rfl), (sP rfl rfl), zAc rfl (by rw [wrapN (by omega) (by omega)]; omega), tv⟩ ⟨⟨by decide, _, rfl, RO.clos rfl⟩, tv⟩ .nil⟩
  rw [heq]; unfold bigQ; rw [h2]; rfl
 have h1 : ¬ i < q.length := fun e => ab (show ((i : Nat) : Int) < (q.length : Int) by omega) (oF h1)
 have e : q.any (bigQ y) = false := by rw [heq, bE (by omega)]; rfl
 rw [e, Bool.false_or]
 refine aI rfl (zAj (rcq [0] (d := 6) (d2 := 1) (lv := [(2, .int .i64 y), (3, .pointer (some ⟨0, 0, none⟩))]) (bs := [(0, .cells (MsT.cs ⟨id, fl, q, an, ns, ar⟩) 25)]) (W := []) (m := 1) (df := []) ⟨(sI rfl), (sP rfl rfl), tv⟩ ⟨⟨by decide, _, rfl, RO.clos rfl⟩, tv⟩ .nil) (fun f => ?_))
 refine eI (an, y) (aI ⟨rfl, f2⟩ ?_)
 refine ifK (fun g => ?_) (fun g => ?_)
 ·have e : an.any (bigR y) = true := g
  rw [e]; exact ⟨_, _, _, rfl⟩
 have e : an.any (bigR y) = false := g
 rw [e, Bool.false_or]
 refine eI (ns, y) (aI ⟨rfl, f3⟩ ?_)
 refine ifK (fun g => ?_) (fun g => ?_)
 ·have e : ns.any (bigR y) = true := g
  rw [e]; exact ⟨_, _, _, rfl⟩
 have e : ns.any (bigR y) = false := g
 rw [e, Bool.false_or]
 refine eI (ar, y) (aI ⟨rfl, f4⟩ ?_)
 exact ⟨_, _, _, rfl⟩
noncomputable def ct_bigMsT : Ct Try.prog 0 := CtR.tree 31 (MsT × Int × Int) (fun x => [x.1.v, .int .i64 x.2.1, .int .i64 x.2.2]) (fun x => x.1.fit 9223372036854775807) (fun x => .bool (x.1.big x.2.1 x.2.2)) (fun a b h => by simp only [aQ, Value.int.injEq, true_and, and_true] at h; exact Prod.ext (MsT.v_inj h.1) (Prod.ext h.2.1 h.2.2)) (fun _ => rfl)
 (fun x hf => by obtain ⟨r, hF, H, k, wr, rfl⟩ := bigMs_tr x.1 x.2.1 x.2.2 hf; exact ⟨_, _, _, _, hF, .one _ _ (.plain _ rfl)⟩)
end
section
open Go Go.RowKit
end
section
open Go Go.RowKit
end
section
open Go Go.RowKit
theorem Rd.nm {B : Bl} {a p i : Nat} {out : Bl} {bh : Int} {r : RR} (h : Rd B a p i out bh r) (he : r.e = 0) : ∃ x, r.s = out ++ x /\ Nm x := by
 induction h with
 | zero h hc => exact ⟨[0], rfl, .root⟩
 | ptr h hc h2 h3 hr ih => exact ih he
 | lab h hc hc2 h2 h3 hr ih =>
  rename_i i out bh r
  obtain ⟨x, e1, e2⟩ := ih he
  refine ⟨(B.drop i).take (cB B i + 1) ++ x, by rw [e1, aN], ?_⟩
  have hg : B.getD i 0 = B[i] := by simp [List.getD_eq_getElem?_getD, gG h]
  have e : (B.drop i).take (cB B i + 1) = B.getD i 0 :: (B.drop (i + 1)).take (cB B i) := by rw [bD h, List.take_succ_cons, hg]
  rw [e, bC]
  exact .lab _ _ _ hc hc2 (by rw [aU, aM]; unfold cB at *; omega) e2
 | _ => cases he
theorem rdOk.nm {B : Bl} {x : Int} {r : RR} (h : rdOk B x r) (he : r.e = 0) : (labels r.s).2 = 0 := by
 have hf := (h.fine.2 he).2.2
 rcases h with ⟨_, rfl⟩ | ⟨a, rfl, h1, h2⟩
 ·cases he
 obtain ⟨x, e1, e2⟩ := h2.nm he
 rw [List.nil_append] at e1
 rw [e1] at hf ⊢
 exact (zCe x).2 ⟨e2, hf⟩
end
section
open Go Go.RowKit
end
section
open Go Go.RowKit
end
section
open Go Go.RowKit
end
section
open Go Go.RowKit
end
section
open Go Go.RowKit
end
section
open Go Go.RowKit
noncomputable def inl_num : Ct Try.prog 0 := Ct.inl (tbOf mixed []) mixed [] 51 Try.f51 Try.func51 (bodyOf Try.f51) (by kernel_rfl)
noncomputable def zLd : Ct Try.prog 0 := Ct.inl (tbOf mixed []) mixed [] 46 Try.f46 Try.func46 (bodyOf Try.f46) (by kernel_rfl)
noncomputable def tbMs4 : Tb Try.prog 0 := tbOf mixed [inl_num, zLd, zHs, zKr]
def firstE {α : Type} (f : α -> Int) : List α -> Int
 | [] => 0
 | x :: l => if f x ≠ 0 then f x else firstE f l
theorem zEq {α : Type} (f : α -> Int) (l : List α) (i : Nat) (h : i < l.length) : firstE f (l.drop i) = if f l[i] ≠ 0 then f l[i] else firstE f (l.drop (i + 1)) := by
 rw [bD h]; rfl
theorem zGg {α : Type} (f : α -> Int) (l : List α) (i : Nat) (h : l.length <= i) : firstE f (l.drop i) = 0 := by rw [bE h]; rfl
def quC (x : QuX) : Int := if (labels (bs x.n)).2 ≠ 0 then (labels (bs x.n)).2 else if numB x.t 65535 && numB x.c 65535 then 0 else 5
def msC (id fl : Int) (q : List QuX) (an ns ar : List RcX) : Int :=
 if (numB id 65535 && numB fl 65535) = false then 5
 else if (numB q.length 65535 && (numB an.length 65535 && (numB ns.length 65535 && numB ar.length 65535))) = false then 3
 else if firstE quC q ≠ 0 then firstE quC q
 else if firstE recC an ≠ 0 then firstE recC an
 else if firstE recC ns ≠ 0 then firstE recC ns
 else firstE recC ar
theorem zLk {x n : Int} (h1 : decide (x >= 0) = true) (h2 : (!decide (x <= n)) = false) : numB x n = true := by
 have h1 := oT h1
 simp only [Bool.not_eq_false', decide_eq_true_iff] at h2
 unfold numB; rw [decide_eq_true_iff]; exact ⟨h1, h2⟩
theorem zOz {x n : Int} (h1 : decide (x >= 0) = false) : numB x n = false := by
 have h1 := oF h1
 unfold numB; rw [decide_eq_false_iff_not]; omega
theorem zFo {x n : Int} (h2 : (!decide (x <= n)) = true) : numB x n = false := by
 simp only [Bool.not_eq_true', decide_eq_false_iff_not] at h2
 unfold numB; rw [decide_eq_false_iff_not]; omega
theorem zKc {x : Nat} {n : Int} (h2 : (!decide ((x : Int) <= n)) = false) : numB (x : Int) n = true := zLk (aX (Int.natCast_nonneg _)) h2
end
section
open Go Go.RowKit
theorem mw_ask (en : Nat) (T : List (Bl × Nat)) (a : Int) (n : ByteArray) (t c : Int) (R : Int × Bl × List (Bl × Nat) × Nat) (hR : askD en T a n t c = R) : R.2.1.length <= 300 /\ R.2.2.1.length <= 300 /\ (R.1 = 0 -> R.2.1 ≠ []) /\ (R.1 ≠ 0 -> R.2.1 = []) := by
 subst hR
 unfold askD
 split
 ·rename_i h; exact ⟨aH _, aH _, fun e => ab e h, fun _ => rfl⟩
 split
 ·split
  ·rename_i h; exact ⟨aH _, aH _, fun e => ab e h, fun _ => rfl⟩
  rename_i he
  obtain ⟨_, _, p4, p5⟩ := zHf (Decidable.not_not.1 he)
  have h1 := zCv T a.toNat (bs n).length (bs n) 0
  have h2 := zIu T a.toNat (bs n).length (bs n) 0
  have h3 : ∀ k, (by2 k).length = 2 := fun _ => rfl
  refine ⟨?_, ?_, fun _ e => ?_, fun h => ab rfl h⟩
  ·show ((packN T a.toNat (bs n).length (bs n) 0).1 ++ by2 t.toNat ++ by2 c.toNat).length <= 300
   rw [aB, aB, h3, h3]; omega
  ·show (packN T a.toNat (bs n).length (bs n) 0).2.length <= 300
   omega
  have e : (packN T a.toNat (bs n).length (bs n) 0).1 ++ by2 t.toNat ++ by2 c.toNat = [] := e
  have := congrArg List.length e
  rw [aB, aB, h3, h3] at this
  simp at this
 exact ⟨aH _, aH _, fun e => ab (show (5 : Int) = 0 from e) (by decide), fun _ => rfl⟩
theorem mw_rec (en : Nat) (T : List (Bl × Nat)) (a : Int) (x : RcX) (R : Int × Bl × List (Bl × Nat) × Nat) (hR : recD en T a x = R) : R.2.1.length <= 70000 /\ R.2.2.1.length <= 2000 /\ (R.1 = 0 -> R.2.1 ≠ []) /\ (R.1 ≠ 0 -> R.2.1 = []) := by
 subst hR
 unfold recD
 split
 ·rename_i h; exact ⟨aH _, aH _, fun e => ab e h, fun _ => rfl⟩
 rename_i hc
 have hc := Decidable.not_not.1 hc
 obtain ⟨_, _, _, _, hcd⟩ := zFs hc
 simp only []
 obtain ⟨A, hA⟩ : ∃ A, askD en T a x.n x.t x.c = A := ⟨_, rfl⟩
 obtain ⟨a1, a2, a3, a4⟩ := mw_ask _ _ _ _ _ _ A hA
 rw [hA]
 split
 ·rename_i h; exact ⟨aH _, aH _, fun e => ab e h, fun _ => rfl⟩
 obtain ⟨D, hD⟩ : ∃ D, wrD A.2.2.2 (T ++ A.2.2.1) ((a.toNat + (A.2.1 ++ by4 x.ttl.toNat).length + 2 : Nat) : Int) x.t (bs x.d) = D := ⟨_, rfl⟩
 have h4 : ∀ k, (by4 k).length = 4 := fun _ => rfl
 have h3 : ∀ k, (by2 k).length = 2 := fun _ => rfl
 obtain ⟨k1, k2, k3, k4⟩ := zLm hcd
 have h1 : D.2.1.length <= 65535 := by
  have := wrD_le (en := A.2.2.2) (T := T ++ A.2.2.1) (a := ((a.toNat + (A.2.1 ++ by4 x.ttl.toNat).length + 2 : Nat) : Int)) (t := x.t) (l := bs x.d)
  rw [hD] at this; omega
 have h2 : D.2.2.1.length <= 1000 := by
  rw [<- hD]
  unfold wrD
  split
  ·exact aH _
  obtain ⟨q1, q2, q3⟩ := zUj ((a.toNat + (A.2.1 ++ by4 x.ttl.toNat).length + 2 : Nat) : Int) (T := T ++ A.2.2.1) (pcsD x.t (bs x.d)) [] [] A.2.2.2 (fun s hs => (k1 s hs).2)
  simp only [List.length_nil] at q1 q2
  omega
 rw [hD]
 split
 ·rename_i h
  exact ⟨aH _, by show (A.2.2.1 ++ D.2.2.1).length <= _; rw [aB]; omega, fun e => ab e h, fun _ => rfl⟩
 refine ⟨?_, by show (A.2.2.1 ++ D.2.2.1).length <= _; rw [aB]; omega, fun _ e => ?_, fun h => ab rfl h⟩
 ·show (A.2.1 ++ by4 x.ttl.toNat ++ by2 D.2.1.length ++ D.2.1).length <= 70000
  rw [aB, aB, aB, h4, h3]; omega
 have e : A.2.1 ++ by4 x.ttl.toNat ++ by2 D.2.1.length ++ D.2.1 = [] := e
 have := congrArg List.length e
 rw [aB, aB, aB, h4, h3] at this
 simp at this
structure MwS where
 out : Bl
 T : List (Bl × Nat)
 en : Nat
abbrev MwI := QuX ⊕ RcX
def mwD (s : MwS) : MwI -> Int × Bl × List (Bl × Nat) × Nat
 | .inl q => askD s.en s.T (s.out.length : Int) q.n q.t q.c
 | .inr x => recD s.en s.T (s.out.length : Int) x
theorem zLj (s : MwS) (x : MwI) {R : Int × Bl × List (Bl × Nat) × Nat} (hR : mwD s x = R) : R.2.1.length <= 70000 /\ R.2.2.1.length <= 2000 /\ (R.1 = 0 -> R.2.1 ≠ []) /\ (R.1 ≠ 0 -> R.2.1 = []) /\ (goodT s.T -> goodT (s.T ++ R.2.2.1)) := by
 cases x with
 | inl q => obtain ⟨h1, h2, h3, h4⟩ := mw_ask _ _ _ _ _ _ R hR; exact ⟨by omega, by omega, h3, h4, fun h => hR ▸ zPv h⟩
 | inr x => obtain ⟨h1, h2, h3, h4⟩ := mw_rec _ _ _ _ R hR; exact ⟨h1, h2, h3, h4, fun h => hR ▸ recD_good h⟩
def mwN (s : MwS) (R : Int × Bl × List (Bl × Nat) × Nat) : MwS := ⟨s.out ++ R.2.1, s.T ++ R.2.2.1, R.2.2.2⟩
def mwF : MwS -> List MwI -> Option MwS
 | s, [] => some s
 | s, x :: l => if (mwD s x).1 ≠ 0 \/ 65535 < (mwN s (mwD s x)).out.length then none else mwF (mwN s (mwD s x)) l
structure mwInv (s0 : MwS) (l : List MwI) (k : Nat) (s : MwS) : Prop where
 lo : 1 <= s.out.length
 hi : s.out.length <= 12 + 70000 * k
 tl : s.T.length <= 2000 * k
 gd : goodT s.T
 st : (s.out.length <= 65535 /\ mwF s0 l = mwF s (l.drop k)) \/ (65535 < s.out.length /\ mwF s0 l = none)
theorem zOx {s : MwS} {l : List MwI} {k : Nat} (h : k < l.length) : mwF s (l.drop k) = if (mwD s l[k]).1 ≠ 0 \/ 65535 < (mwN s (mwD s l[k])).out.length then none else mwF (mwN s (mwD s l[k])) (l.drop (k + 1)) := by
 rw [bD h]; rfl
theorem mwInv.bad {s0 : MwS} {l : List MwI} {k : Nat} {s : MwS} (h : mwInv s0 l k s) (hk : k < l.length) {R : Int × Bl × List (Bl × Nat) × Nat} (hR : mwD s l[k] = R) (he : R.1 ≠ 0) : mwF s0 l = none := by
 rcases h.st with ⟨_, e⟩ | ⟨_, e⟩
 ·rw [e, zOx hk, hR, if_pos (.inl he)]
 exact e
theorem mwInv.long {s0 : MwS} {l : List MwI} {k : Nat} {s : MwS} (h : mwInv s0 l k s) (he : 65535 < s.out.length) : mwF s0 l = none := by
 rcases h.st with ⟨q, e⟩ | ⟨_, e⟩
 ·omega
 exact e
theorem mwInv.next {s0 : MwS} {l : List MwI} {k : Nat} {s : MwS} (h : mwInv s0 l k s) (hk : k < l.length) {R : Int × Bl × List (Bl × Nat) × Nat} (hR : mwD s l[k] = R) (he : R.1 = 0) : mwInv s0 l (k + 1) (mwN s R) := by
 obtain ⟨r1, r2, r3, r4, r5⟩ := zLj s l[k] hR
 have hl : (mwN s R).out.length = s.out.length + R.2.1.length := aB
 have h1 := h.hi
 have h2 := h.tl
 have h3 := h.lo
 refine ⟨by omega, by omega, by show (s.T ++ R.2.2.1).length <= _; rw [aB]; omega, r5 h.gd, ?_⟩
 rcases h.st with ⟨q, e⟩ | ⟨q, e⟩
 ·by_cases hx : 65535 < (mwN s R).out.length
  ·exact .inr ⟨hx, by rw [e, zOx hk, hR, if_pos (.inr hx)]⟩
  exact .inl ⟨by omega, by rw [e, zOx hk, hR, if_neg (fun h => h.elim (fun h => h he) hx)]⟩
 exact .inr ⟨by omega, e⟩
theorem mwInv.fin {s0 : MwS} {l : List MwI} {s : MwS} (h : mwInv s0 l l.length s) (he : s.out.length <= 65535) : mwF s0 l = some s := by
 rcases h.st with ⟨_, e⟩ | ⟨q, e⟩
 ·rw [e, List.drop_length]; rfl
 omega
end
section
open Go Go.RowKit
structure LtM where
 m : MsT
 q : Value
 an : Value
 ns : Value
 ar : Value
def LtM.v (x : LtM) : Value := .agg #[.int .i64 x.m.id, .int .i64 x.m.fl, x.q, x.an, x.ns, x.ar]
def LtM.at (x : LtM) (H : Tr AObj) : Prop := LtL layQ H x.q x.m.q /\ LtL layR H x.an x.m.an /\ LtL layR H x.ns x.m.ns /\ LtL layR H x.ar x.m.ar
theorem LtM.uniq {x y : LtM} {H : Tr AObj} (e : x.v = y.v) (h : x.at H) (k : y.at H) : x = y := by
 obtain ⟨⟨i, f, q, a, n, r⟩, vq, va, vn, vr⟩ := x
 obtain ⟨⟨i', f', q', a', n', r'⟩, vq', va', vn', vr'⟩ := y
 simp only [LtM.v, Value.agg.injEq, Array.mk.injEq, aQ, Value.int.injEq, true_and, and_true] at e
 obtain ⟨rfl, rfl, rfl, rfl, rfl, rfl⟩ := e
 obtain ⟨h1, h2, h3, h4⟩ := h
 obtain ⟨k1, k2, k3, k4⟩ := k
 have e1 : q = q' := h1.uniq k1
 have e2 : a = a' := h2.uniq k2
 have e3 : n = n' := h3.uniq k3
 have e4 : r = r' := h4.uniq k4
 subst e1; subst e2; subst e3; subst e4; rfl
theorem LtM.frz {x : LtM} {H : Tr AObj} (h : x.at H) : FrzP True Try.prog 0 H x.v x.m.v := by
 obtain ⟨h1, h2, h3, h4⟩ := h
 exact .agg _ _ (.cons _ _ _ _ (.one _ _ (.plain _ rfl)) (.cons _ _ _ _ (.one _ _ (.plain _ rfl)) (.cons _ _ _ _ (h1.frz (by kernel_rfl)) (.cons _ _ _ _ (h2.frz (by kernel_rfl)) (.cons _ _ _ _ (h3.frz (by kernel_rfl)) (.cons _ _ _ _ (h4.frz (by kernel_rfl)) .nil))))))
def MsT.lt (m : MsT) : LtM := ⟨m, trQ m.q, trR m.an, trR m.ns, trR m.ar⟩
theorem MsT.lt_at (m : MsT) (H : Tr AObj) : m.lt.at H := ⟨.tree _ _ _, .tree _ _ _, .tree _ _ _, .tree _ _ _⟩
noncomputable def CtR.lendM (f : FuncId) (pre : MsT -> Prop) (out : MsT -> Value) (ok : ∀ m, pre m -> ∃ v H k wr, FnS Try.prog 0 f [m.v] .e 0 (.ret v H k wr) /\ FrzP False Try.prog 0 H v (out m))
  (tr : MsT -> (Value -> Prop) -> Prop := fun x F => F (out x)) (trOk : ∀ x F, tr x F -> F (out x) := by exact fun _ _ h => h) : Ct Try.prog 0 :=
 CtR.lend f LtM (fun x => [x.v]) LtM.at (fun x => [x.m.v]) (fun x => pre x.m) (fun x => out x.m) (fun _ _ _ e h k => LtM.uniq (by simpa using e) h k) (fun _ _ h => .cons _ _ _ _ (LtM.frz h) .nil) (fun x h => ok x.m h) (fun x => tr x.m) (fun x => trOk x.m)
end
section
open Go Go.RowKit
def cmS1 (id fl : Int) (ql : List QuX) (al nl rl : List RcX) (i : Nat) (f : Nat -> Option Value) : Fs := ⟨slots 7 [(1, pt 0), (48, trQ ql), (49, .int .i64 ql.length), (50, .int .i64 i)] f, heap 1 [(0, .cells [.int .i64 id, .int .i64 fl, trQ ql, trR al, trR nl, trR rl] 25)], 1, [], []⟩
def cmS2 (id fl : Int) (ql : List QuX) (al nl rl : List RcX) (k : Int) (yl : List RcX) (i : Nat) (f : Nat -> Option Value) : Fs := ⟨slots 7 [(71, .agg #[.pointer (some ⟨0, 3, none⟩), .pointer (some ⟨0, 4, none⟩), .pointer (some ⟨0, 5, none⟩)]), (72, .int .i64 k), (77, trR yl), (78, .int .i64 yl.length), (79, .int .i64 i)] f, heap 1 [(0, .cells [.int .i64 id, .int .i64 fl, trQ ql, trR al, trR nl, trR rl] 25)], 1, [], []⟩
theorem zTk (id fl : Int) (ql : List QuX) (al nl rl : List RcX) (hq : ∀ x ∈ ql, shortB x.n = true) (ha : ∀ x ∈ al, x.ok = true) (hn : ∀ x ∈ nl, x.ok = true) (hr : ∀ x ∈ rl, x.ok = true) :
  ∃ r, FnS Try.prog 0 14 [(MsT.mk id fl ql al nl rl).v] .e 0 r /\ ∃ H k wr, r = .ret (.int .i64 (msC id fl ql al nl rl)) H k wr := by
 refine zBp mixed tbMs4 [] Try.func14 (c := bodyOf Try.f14) (by kernel_rfl) ?_
 unfold msC
 refine ifK (fun g1 => ?_) (fun g1 => by rw [zOz g1]; exact ⟨_, _, _, rfl⟩)
 refine ifK (fun g2 => by rw [zFo g2]; exact ⟨_, _, _, rfl⟩) (fun g2 => ?_)
 rw [zLk g1 g2, Bool.true_and]
 refine ifK (fun g3 => ?_) (fun g3 => by rw [zOz g3]; exact ⟨_, _, _, rfl⟩)
 refine ifK (fun g4 => by rw [zFo g4]; exact ⟨_, _, _, rfl⟩) (fun g4 => ?_)
 rw [zLk g3 g4, if_neg (by decide)]
 refine ifK (fun g5 => by rw [zFo g5]; exact ⟨_, _, _, rfl⟩) (fun g5 => ?_)
 rw [zKc g5, Bool.true_and]
 refine ifK (fun g6 => by rw [zFo g6]; exact ⟨_, _, _, rfl⟩) (fun g6 => ?_)
 rw [zKc g6, Bool.true_and]
 refine ifK (fun g7 => by rw [zFo g7]; exact ⟨_, _, _, rfl⟩) (fun g7 => ?_)
 rw [zKc g7, Bool.true_and]
 refine ifK (fun g8 => by rw [zFo g8]; exact ⟨_, _, _, rfl⟩) (fun g8 => ?_)
 rw [zKc g8, if_neg (by decide)]
 have f1 : ql.length <= 65535 := by have := oT (Bool.not_eq_false' .. ▸ g5 : decide ((ql.length : Int) <= 65535) = true); omega
 have f2 : al.length <= 65535 := by have := oT (Bool.not_eq_false' .. ▸ g6 : decide ((al.length : Int) <= 65535) = true); omega
 have f3 : nl.length <= 65535 := by have := oT (Bool.not_eq_false' .. ▸ g7 : decide ((nl.length : Int) <= 65535) = true); omega
 have f4 : rl.length <= 65535 := by have := oT (Bool.not_eq_false' .. ▸ g8 : decide ((rl.length : Int) <= 65535) = true); omega
 refine zAr (cmS1 id fl ql al nl rl) (fun i => ql.length - i) (fun i => i <= ql.length /\ firstE quC ql = firstE quC (ql.drop i)) 0 ⟨aH _, rfl⟩
  (rcq [0] ⟨(sP rfl rfl), ⟨_, rfl, zAh 8 rfl⟩, (sI rfl), (sI rfl), tv⟩ ⟨⟨by decide, _, rfl, RO.clos rfl⟩, tv⟩ .nil) ?_
 rintro i f ⟨hi, heq⟩
 have hi : i <= ql.length := hi
 refine zAt tbMs4 [] 0 _ none mixed _ _ _ ?_
 refine ifK (fun h1 => ?_) (fun h1 => ?_)
 ·have h1 : i < ql.length := by have h1 : ((i : Nat) : Int) < (ql.length : Int) := oT h1; omega
  rw [zEq quC ql i h1] at heq
  refine ifK (fun _ => ?_) (fun h2 => ab h2 (by simp [inI]; omega))
  refine eI ql[i].n (eI ql[i].t (eI ql[i].c (aI (zCm layQ h1) ?_)))
  obtain ⟨x, hx⟩ : ∃ x, ql[i] = x := ⟨_, rfl⟩
  rw [hx] at heq ⊢
  have hs : shortB x.n = true := hx ▸ hq _ (aV h1)
  refine aI hs ?_
  refine ifK (fun h2 => ?_) (fun h2 => ?_)
  ·have h2 : (labels (bs x.n)).2 ≠ 0 := by simpa using h2
   have e : quC x = (labels (bs x.n)).2 := by unfold quC; rw [if_pos h2]
   have e1 : firstE quC ql = (labels (bs x.n)).2 := by rw [heq, e, if_pos h2]
   refine aI rfl (zAj (rcq [] (d := 7) (d2 := 0) (lv := [(2, .int .i64 ((labels (bs x.n)).2))]) (bs := []) (W := []) (m := 0) (df := []) ⟨(sI rfl), tv⟩ trivial .nil) (fun f => ?_))
   rw [e1, if_pos h2]; exact ⟨_, _, _, rfl⟩
  have h2 : (labels (bs x.n)).2 = 0 := by simpa using h2
  have e0 : quC x = if (numB x.t 65535 && numB x.c 65535) = true then 0 else 5 := by unfold quC; rw [if_neg (by simpa using h2)]
  have bad : (numB x.t 65535 && numB x.c 65535) = false -> firstE quC ql = 5 := fun h => by rw [heq, e0, h]; rfl
  have good : (numB x.t 65535 && numB x.c 65535) = true -> firstE quC ql = firstE quC (ql.drop (i + 1)) := fun h => by rw [heq, e0, h]; rfl
  refine ifK (fun k1 => ?_) (fun k1 => ?_)
  ·refine ifK (fun k2 => ?_) (fun k2 => ?_)
   ·have e1 := bad (by rw [zFo k2]; rfl)
    refine aI rfl (zAj (rcq [] (d := 7) (d2 := 0) (lv := [(2, .int .i64 (5))]) (bs := []) (W := []) (m := 0) (df := []) ⟨(sI rfl), tv⟩ trivial .nil) (fun f => ?_))
    rw [e1, if_pos (by decide)]; exact ⟨_, _, _, rfl⟩
   refine ifK (fun k3 => ?_) (fun k3 => ?_)
   ·refine ifK (fun k4 => ?_) (fun k4 => ?_)
    ·have e1 := bad (by rw [zFo k4, Bool.and_false])
     refine aI rfl (zAj (rcq [] (d := 7) (d2 := 0) (lv := [(2, .int .i64 (5))]) (bs := []) (W := []) (m := 0) (df := []) ⟨(sI rfl), tv⟩ trivial .nil) (fun f => ?_))
     rw [e1, if_pos (by decide)]; exact ⟨_, _, _, rfl⟩
    exact ⟨i + 1, ⟨h1, good (by rw [zLk k1 k2, zLk k3 k4]; rfl)⟩, by show ql.length - (i + 1) < ql.length - i; omega, rcq [0] ⟨(sP rfl rfl), ⟨_, rfl, zAh 8 rfl⟩, (sI rfl), zAc rfl (by rw [wrapN (by omega) (by omega)]; omega), tv⟩ ⟨⟨by decide, _, rfl, RO.clos rfl⟩, tv⟩ .nil⟩
   have e1 := bad (by rw [zOz k3, Bool.and_false])
   refine aI rfl (zAj (rcq [] (d := 7) (d2 := 0) (lv := [(2, .int .i64 (5))]) (bs := []) (W := []) (m := 0) (df := []) ⟨(sI rfl), tv⟩ trivial .nil) (fun f => ?_))
   rw [e1, if_pos (by decide)]; exact ⟨_, _, _, rfl⟩
  have e1 := bad (by rw [zOz k1]; rfl)
  refine aI rfl (zAj (rcq [] (d := 7) (d2 := 0) (lv := [(2, .int .i64 (5))]) (bs := []) (W := []) (m := 0) (df := []) ⟨(sI rfl), tv⟩ trivial .nil) (fun f => ?_))
  rw [e1, if_pos (by decide)]; exact ⟨_, _, _, rfl⟩
 have h1 : ¬ i < ql.length := fun e => ab (show ((i : Nat) : Int) < (ql.length : Int) by omega) (oF h1)
 have e1 : firstE quC ql = 0 := by rw [heq, zGg _ _ _ (by omega)]
 rw [e1, if_neg (by decide)]
 refine aI rfl (zAj (rcq [0] (d := 7) (d2 := 1) (lv := [(1, pt 0)]) (bs := [(0, .cells [.int .i64 id, .int .i64 fl, trQ ql, trR al, trR nl, trR rl] 25)]) (W := []) (m := 1) (df := []) ⟨(sP rfl rfl), tv⟩ ⟨⟨by decide, _, rfl, RO.clos rfl⟩, tv⟩ .nil) (fun f => ?_))
 refine aI (by kernel_rfl) ?_
 refine LW.round ?_
 refine zAt tbMs4 [] 0 _ none mixed _ _ _ ?_
 refine zAr (cmS2 id fl ql al nl rl 0 al) (fun i => al.length - i) (fun i => i <= al.length /\ firstE recC al = firstE recC (al.drop i)) 0 ⟨aH _, rfl⟩
  (rcq [0] ⟨⟨_, rfl, .agg _ _ (.cons _ _ _ _ (.ptr _ _ _ rfl) (.cons _ _ _ _ (.ptr _ _ _ rfl) (.cons _ _ _ _ (.ptr _ _ _ rfl) .nil)))⟩, (sI rfl), ⟨_, rfl, zAh 8 rfl⟩, (sI rfl), (sI rfl), tv⟩ ⟨⟨by decide, _, rfl, RO.clos rfl⟩, tv⟩ .nil) ?_
 rintro i f ⟨hi, heq⟩
 have hi : i <= al.length := hi
 refine zAt tbMs4 [] 0 _ none mixed _ _ _ ?_
 refine ifK (fun h1 => ?_) (fun h1 => ?_)
 ·have h1 : i < al.length := by have h1 : ((i : Nat) : Int) < (al.length : Int) := oT h1; omega
  rw [zEq recC al i h1] at heq
  refine ifK (fun _ => ?_) (fun h2 => ab h2 (by simp [inI]; omega))
  refine eI al[i].n (eI al[i].t (eI al[i].c (eI al[i].ttl (eI al[i].d (aI (zCm layR h1) ?_)))))
  obtain ⟨x, hx⟩ : ∃ x, al[i] = x := ⟨_, rfl⟩
  rw [hx] at heq ⊢
  have hs : x.ok = true := hx ▸ ha _ (aV h1)
  refine aI hs ?_
  refine ifK (fun h2 => ?_) (fun h2 => ?_)
  ·have h2 : recC x ≠ 0 := by simpa using h2
   have e1 : firstE recC al = recC x := by rw [heq, if_pos h2]
   refine aI rfl (zAj (rcq [] (d := 7) (d2 := 0) (lv := [(2, .int .i64 (recC x))]) (bs := []) (W := []) (m := 0) (df := []) ⟨(sI rfl), tv⟩ trivial .nil) (fun f => ?_))
   rw [e1, if_pos h2]; exact ⟨_, _, _, rfl⟩
  have h2 : recC x = 0 := by simpa using h2
  exact ⟨i + 1, ⟨h1, by rw [heq, if_neg (by simpa using h2)]⟩, by show al.length - (i + 1) < al.length - i; omega, rcq [0] ⟨⟨_, rfl, .agg _ _ (.cons _ _ _ _ (.ptr _ _ _ rfl) (.cons _ _ _ _ (.ptr _ _ _ rfl) (.cons _ _ _ _ (.ptr _ _ _ rfl) .nil)))⟩, (sI rfl), ⟨_, rfl, zAh 8 rfl⟩, (sI rfl), zAc rfl (by rw [wrapN (by omega) (by omega)]; omega), tv⟩ ⟨⟨by decide, _, rfl, RO.clos rfl⟩, tv⟩ .nil⟩
 have h1 : ¬ i < al.length := fun e => ab (show ((i : Nat) : Int) < (al.length : Int) by omega) (oF h1)
 have e1 : firstE recC al = 0 := by rw [heq, zGg _ _ _ (by omega)]
 rw [e1, if_neg (by decide)]
 refine aI rfl (zAj (rcq [0] (d := 7) (d2 := 1) (lv := [(71, .agg #[.pointer (some ⟨0, 3, none⟩), .pointer (some ⟨0, 4, none⟩), .pointer (some ⟨0, 5, none⟩)]), (72, .int .i64 0)]) (bs := [(0, .cells [.int .i64 id, .int .i64 fl, trQ ql, trR al, trR nl, trR rl] 25)]) (W := []) (m := 1) (df := []) ⟨⟨_, rfl, .agg _ _ (.cons _ _ _ _ (.ptr _ _ _ rfl) (.cons _ _ _ _ (.ptr _ _ _ rfl) (.cons _ _ _ _ (.ptr _ _ _ rfl) .nil)))⟩, (sI rfl), tv⟩ ⟨⟨by decide, _, rfl, RO.clos rfl⟩, tv⟩ .nil) (fun f => ?_))
 refine LW.round ?_
 refine zAt tbMs4 [] 0 _ none mixed _ _ _ ?_
 refine zAr (cmS2 id fl ql al nl rl 1 nl) (fun i => nl.length - i) (fun i => i <= nl.length /\ firstE recC nl = firstE recC (nl.drop i)) 0 ⟨aH _, rfl⟩
  (rcq [0] ⟨⟨_, rfl, .agg _ _ (.cons _ _ _ _ (.ptr _ _ _ rfl) (.cons _ _ _ _ (.ptr _ _ _ rfl) (.cons _ _ _ _ (.ptr _ _ _ rfl) .nil)))⟩, (sI rfl), ⟨_, rfl, zAh 8 rfl⟩, (sI rfl), (sI rfl), tv⟩ ⟨⟨by decide, _, rfl, RO.clos rfl⟩, tv⟩ .nil) ?_
 rintro i f ⟨hi, heq⟩
 have hi : i <= nl.length := hi
 refine zAt tbMs4 [] 0 _ none mixed _ _ _ ?_
 refine ifK (fun h1 => ?_) (fun h1 => ?_)
 ·have h1 : i < nl.length := by have h1 : ((i : Nat) : Int) < (nl.length : Int) := oT h1; omega
  rw [zEq recC nl i h1] at heq
  refine ifK (fun _ => ?_) (fun h2 => ab h2 (by simp [inI]; omega))
  refine eI nl[i].n (eI nl[i].t (eI nl[i].c (eI nl[i].ttl (eI nl[i].d (aI (zCm layR h1) ?_)))))
  obtain ⟨x, hx⟩ : ∃ x, nl[i] = x := ⟨_, rfl⟩
  rw [hx] at heq ⊢
  have hs : x.ok = true := hx ▸ hn _ (aV h1)
  refine aI hs ?_
  refine ifK (fun h2 => ?_) (fun h2 => ?_)
  ·have h2 : recC x ≠ 0 := by simpa using h2
   have e1 : firstE recC nl = recC x := by rw [heq, if_pos h2]
   refine aI rfl (zAj (rcq [] (d := 7) (d2 := 0) (lv := [(2, .int .i64 (recC x))]) (bs := []) (W := []) (m := 0) (df := []) ⟨(sI rfl), tv⟩ trivial .nil) (fun f => ?_))
   rw [e1, if_pos h2]; exact ⟨_, _, _, rfl⟩
  have h2 : recC x = 0 := by simpa using h2
  exact ⟨i + 1, ⟨h1, by rw [heq, if_neg (by simpa using h2)]⟩, by show nl.length - (i + 1) < nl.length - i; omega, rcq [0] ⟨⟨_, rfl, .agg _ _ (.cons _ _ _ _ (.ptr _ _ _ rfl) (.cons _ _ _ _ (.ptr _ _ _ rfl) (.cons _ _ _ _ (.ptr _ _ _ rfl) .nil)))⟩, (sI rfl), ⟨_, rfl, zAh 8 rfl⟩, (sI rfl), zAc rfl (by rw [wrapN (by omega) (by omega)]; omega), tv⟩ ⟨⟨by decide, _, rfl, RO.clos rfl⟩, tv⟩ .nil⟩
 have h1 : ¬ i < nl.length := fun e => ab (show ((i : Nat) : Int) < (nl.length : Int) by omega) (oF h1)
 have e1 : firstE recC nl = 0 := by rw [heq, zGg _ _ _ (by omega)]
 rw [e1, if_neg (by decide)]
 refine aI rfl (zAj (rcq [0] (d := 7) (d2 := 1) (lv := [(71, .agg #[.pointer (some ⟨0, 3, none⟩), .pointer (some ⟨0, 4, none⟩), .pointer (some ⟨0, 5, none⟩)]), (72, .int .i64 1)]) (bs := [(0, .cells [.int .i64 id, .int .i64 fl, trQ ql, trR al, trR nl, trR rl] 25)]) (W := []) (m := 1) (df := []) ⟨⟨_, rfl, .agg _ _ (.cons _ _ _ _ (.ptr _ _ _ rfl) (.cons _ _ _ _ (.ptr _ _ _ rfl) (.cons _ _ _ _ (.ptr _ _ _ rfl) .nil)))⟩, (sI rfl), tv⟩ ⟨⟨by decide, _, rfl, RO.clos rfl⟩, tv⟩ .nil) (fun f => ?_))
 refine LW.round ?_
 refine zAt tbMs4 [] 0 _ none mixed _ _ _ ?_
 refine zAr (cmS2 id fl ql al nl rl 2 rl) (fun i => rl.length - i) (fun i => i <= rl.length /\ firstE recC rl = firstE recC (rl.drop i)) 0 ⟨aH _, rfl⟩
  (rcq [0] ⟨⟨_, rfl, .agg _ _ (.cons _ _ _ _ (.ptr _ _ _ rfl) (.cons _ _ _ _ (.ptr _ _ _ rfl) (.cons _ _ _ _ (.ptr _ _ _ rfl) .nil)))⟩, (sI rfl), ⟨_, rfl, zAh 8 rfl⟩, (sI rfl), (sI rfl), tv⟩ ⟨⟨by decide, _, rfl, RO.clos rfl⟩, tv⟩ .nil) ?_
 rintro i f ⟨hi, heq⟩
 have hi : i <= rl.length := hi
 refine zAt tbMs4 [] 0 _ none mixed _ _ _ ?_
 refine ifK (fun h1 => ?_) (fun h1 => ?_)
 ·have h1 : i < rl.length := by have h1 : ((i : Nat) : Int) < (rl.length : Int) := oT h1; omega
  rw [zEq recC rl i h1] at heq
  refine ifK (fun _ => ?_) (fun h2 => ab h2 (by simp [inI]; omega))
  refine eI rl[i].n (eI rl[i].t (eI rl[i].c (eI rl[i].ttl (eI rl[i].d (aI (zCm layR h1) ?_)))))
  obtain ⟨x, hx⟩ : ∃ x, rl[i] = x := ⟨_, rfl⟩
  rw [hx] at heq ⊢
  have hs : x.ok = true := hx ▸ hr _ (aV h1)
  refine aI hs ?_
  refine ifK (fun h2 => ?_) (fun h2 => ?_)
  ·have h2 : recC x ≠ 0 := by simpa using h2
   have e1 : firstE recC rl = recC x := by rw [heq, if_pos h2]
   refine aI rfl (zAj (rcq [] (d := 7) (d2 := 0) (lv := [(2, .int .i64 (recC x))]) (bs := []) (W := []) (m := 0) (df := []) ⟨(sI rfl), tv⟩ trivial .nil) (fun f => ?_))
   rw [e1]; exact ⟨_, _, _, rfl⟩
  have h2 : recC x = 0 := by simpa using h2
  exact ⟨i + 1, ⟨h1, by rw [heq, if_neg (by simpa using h2)]⟩, by show rl.length - (i + 1) < rl.length - i; omega, rcq [0] ⟨⟨_, rfl, .agg _ _ (.cons _ _ _ _ (.ptr _ _ _ rfl) (.cons _ _ _ _ (.ptr _ _ _ rfl) (.cons _ _ _ _ (.ptr _ _ _ rfl) .nil)))⟩, (sI rfl), ⟨_, rfl, zAh 8 rfl⟩, (sI rfl), zAc rfl (by rw [wrapN (by omega) (by omega)]; omega), tv⟩ ⟨⟨by decide, _, rfl, RO.clos rfl⟩, tv⟩ .nil⟩
 have h1 : ¬ i < rl.length := fun e => ab (show ((i : Nat) : Int) < (rl.length : Int) by omega) (oF h1)
 have e1 : firstE recC rl = 0 := by rw [heq, zGg _ _ _ (by omega)]
 rw [e1]
 refine aI rfl (zAj (rcq [0] (d := 7) (d2 := 1) (lv := [(71, .agg #[.pointer (some ⟨0, 3, none⟩), .pointer (some ⟨0, 4, none⟩), .pointer (some ⟨0, 5, none⟩)]), (72, .int .i64 2)]) (bs := [(0, .cells [.int .i64 id, .int .i64 fl, trQ ql, trR al, trR nl, trR rl] 25)]) (W := []) (m := 1) (df := []) ⟨⟨_, rfl, .agg _ _ (.cons _ _ _ _ (.ptr _ _ _ rfl) (.cons _ _ _ _ (.ptr _ _ _ rfl) (.cons _ _ _ _ (.ptr _ _ _ rfl) .nil)))⟩, (sI rfl), tv⟩ ⟨⟨by decide, _, rfl, RO.clos rfl⟩, tv⟩ .nil) (fun f => ?_))
 refine LW.round ?_
 refine zAt tbMs4 [] 0 _ none mixed _ _ _ ?_
 exact ⟨_, _, _, rfl⟩
def MsT.chk (m : MsT) : Int := msC m.id m.fl m.q m.an m.ns m.ar
def MsT.okM (m : MsT) : Prop := (∀ x ∈ m.q, shortB x.n = true) /\ (∀ x ∈ m.an, x.ok = true) /\ (∀ x ∈ m.ns, x.ok = true) /\ (∀ x ∈ m.ar, x.ok = true)
noncomputable def zKq : Ct Try.prog 0 := CtR.lendM 14 MsT.okM (fun m => .int .i64 m.chk)
 (fun m h => by obtain ⟨r, hF, H, k, wr, rfl⟩ := zTk m.id m.fl m.q m.an m.ns m.ar h.1 h.2.1 h.2.2.1 h.2.2.2; exact ⟨_, _, _, _, hF, .one _ _ (.plain _ rfl)⟩)
end
section
open Go Go.RowKit
noncomputable def ct_ask : Ct Try.prog 0 := ct_pk 45 AskY AskY.xs AskY.inj (fun _ => rfl) (fun y => shortB y.n = true) (fun en T y => y.D en T) (fun y en T ck hT hs => ask_fn y en T ck hT hs)
noncomputable def ct_recw : Ct Try.prog 0 := ct_pk 47 WrtY WrtY.xs WrtY.inj (fun _ => rfl) (fun y => y.x.ok = true) (fun en T y => y.D en T) (fun y en T ck hT hs => recw_fn y en T ck hT hs)
end
section
open Go Go.RowKit
end
section
open Go Go.RowKit
def MsT.items (m : MsT) : List MwI := m.q.map .inl ++ (m.an.map .inr ++ (m.ns.map .inr ++ m.ar.map .inr))
def MsT.head (m : MsT) : Bl := ((((by2 m.id.toNat ++ by2 m.fl.toNat) ++ by2 m.q.length) ++ by2 m.an.length) ++ by2 m.ns.length) ++ by2 m.ar.length
def MsT.wr (m : MsT) : Int × Bl := if m.chk ≠ 0 then (m.chk, []) else match mwF ⟨m.head, [], 0⟩ m.items with
 | none => (3, [])
 | some s => (0, s.out)
noncomputable def inl_newM : Ct Try.prog 0 := Ct.inl (tbOf mixed []) mixed [] 44 Try.f44 Try.func44 (bodyOf Try.f44) (by kernel_rfl)
noncomputable def tbMw3 : Tb Try.prog 0 := tbOf mixed [zKq, zOd, inl_newM, zLd, ct_ask, ct_recw]
def mwN0 (e : Int) (f : Nat -> Option Value) : Fs := ⟨slots 7 [(2, pt 0), (3, pt 1)] f, heap 2 [(0, .cells [.slice none 0 0] 28), (1, .cells [.int .i64 e] 29)], 2, [], [.call 42 [pt 1, pt 0] []]⟩
def mwO0 (e : Int) (u : UInt8) (us : Bl) (f : Nat -> Option Value) : Fs := ⟨slots 7 [(2, pt 0), (3, pt 1)] f, heap 2 [(0, .cells [sq 2 (us.length + 1) U] 28), (1, .cells [.int .i64 e] 29), (2, .cells ((u :: us).map byV) 5)], 3, [], [.call 42 [pt 1, pt 0] []]⟩
theorem zDj {nt a b c : Nat} {e : Int} {u : UInt8} {us : Bl} {s : Fs} {K : Fs -> Prop} (hd : Nat.ble (nt + 1) (2 ^ 7) = true) (hn : [a, b, c].Nodup) (hL : ∀ x ∈ [a, b, c], 0 <= x /\ x < JJ) (ha : sgO 0 [a, b, c] a 0) (hb : sgO 0 [a, b, c] b 1) (hc : sgO 0 [a, b, c] c 2)
  (h2 : s.T.get 2 = some (pt a)) (h3 : s.T.get 3 = some (pt b)) (k0 : s.H.get (un 0 [a, b, c] 0) = some (.cells [sq c (us.length + 1) U] 28)) (k1 : s.H.get (un 0 [a, b, c] 1) = some (.cells [.int .i64 e] 29)) (k2 : s.H.get (un 0 [a, b, c] 2) = some (.cells ((u :: us).map byV) 5))
  (hD : s.df = [.call 42 [pt b, pt a] []]) (hs : Nat.ble 0 s.n = true) (k : ∀ f, K (mwO0 e u us f)) : ∃ s2, RcM Try.prog 0 0 nt none s s2 /\ K s2 :=
 zAj (zBa [a, b, c] (d := 7) (d2 := 2) (lv := [(2, pt 0), (3, pt 1)]) (bs := [(0, .cells [sq 2 (us.length + 1) U] 28), (1, .cells [.int .i64 e] 29), (2, .cells ((u :: us).map byV) 5)]) (W := []) (m := 3) (df := [.call 42 [pt 1, pt 0] []]) hd hs rfl (fun l e => by cases e) hn hL rfl rfl (fun k _ h => ab h (Nat.not_lt_zero _))
  ⟨⟨_, h2, .ptr _ _ _ ha⟩, ⟨_, h3, .ptr _ _ _ hb⟩, tv⟩ ⟨⟨by decide, _, k0, zBb hc⟩, ⟨by decide, _, k1, .same rfl⟩, ⟨by decide, _, k2, .same (zAb _)⟩, tv⟩ (by rw [hD]; exact .fn _ _ _ _ _ _ _ (.cons _ _ _ _ (.ptr _ _ _ hb) (.cons _ _ _ _ (.ptr _ _ _ ha) .nil)) .nil .nil)) k
theorem mw_e1a (n : Nat) (R : Res -> Prop) (f : Nat -> Option Value) : fnK tbMw3 Try.f12 R .ret (mwN0 (.ofNat (n + 1)) f) = R (.ret (.tuple #[.slice none 0 0, .int .i64 (.ofNat (n + 1))]) (resH (endR tbMw3 Try.f12 .ret (mwN0 (.ofNat (n + 1)) f))) (resN (endR tbMw3 Try.f12 .ret (mwN0 (.ofNat (n + 1)) f))) [0]) := by kernel_rfl
theorem mw_e1b (n : Nat) (R : Res -> Prop) (f : Nat -> Option Value) : fnK tbMw3 Try.f12 R .ret (mwN0 (.negSucc n) f) = R (.ret (.tuple #[.slice none 0 0, .int .i64 (.negSucc n)]) (resH (endR tbMw3 Try.f12 .ret (mwN0 (.negSucc n) f))) (resN (endR tbMw3 Try.f12 .ret (mwN0 (.negSucc n) f))) [0]) := by kernel_rfl
theorem mw_e1 (e : Int) (he : e ≠ 0) (R : Res -> Prop) (f : Nat -> Option Value) : fnK tbMw3 Try.f12 R .ret (mwN0 e f) = R (.ret (.tuple #[.slice none 0 0, .int .i64 e]) (resH (endR tbMw3 Try.f12 .ret (mwN0 e f))) (resN (endR tbMw3 Try.f12 .ret (mwN0 e f))) [0]) :=
 match e, he with
 | .ofNat 0, h => ab rfl h
 | .ofNat (n + 1), _ => mw_e1a n R f
 | .negSucc n, _ => mw_e1b n R f
theorem zQy (u : UInt8) (us : Bl) (R : Res -> Prop) (f : Nat -> Option Value) : fnK tbMw3 Try.f12 R .ret (mwO0 3 u us f) = R (.ret (.tuple #[.slice none 0 0, .int .i64 3]) (resH (endR tbMw3 Try.f12 .ret (mwO0 3 u us f))) (resN (endR tbMw3 Try.f12 .ret (mwO0 3 u us f))) [0]) := by kernel_rfl
theorem mw_e3 (u : UInt8) (us : Bl) (R : Res -> Prop) (f : Nat -> Option Value) : fnK tbMw3 Try.f12 R .ret (mwO0 0 u us f) = R (.ret (.tuple #[sq 2 (us.length + 1) U, .int .i64 0]) (resH (endR tbMw3 Try.f12 .ret (mwO0 0 u us f))) (resN (endR tbMw3 Try.f12 .ret (mwO0 0 u us f))) []) := by kernel_rfl
theorem mw_g3 (u : UInt8) (us : Bl) (f : Nat -> Option Value) : (resH (endR tbMw3 Try.f12 .ret (mwO0 0 u us f))).get 2 = some (.cells ((u :: us).map byV) 5) := by kernel_rfl
theorem zVr {m : MsT} (h : m.chk = 0) : (0 <= m.id /\ m.id <= 65535) /\ (0 <= m.fl /\ m.fl <= 65535) /\ m.q.length <= 65535 /\ m.an.length <= 65535 /\ m.ns.length <= 65535 /\ m.ar.length <= 65535 := by
 unfold MsT.chk msC at h
 split at h
 ·cases h
 rename_i h1
 split at h
 ·cases h
 rename_i h2
 rw [Bool.not_eq_false, bA] at h1
 rw [Bool.not_eq_false, bA, bA, bA] at h2
 unfold numB at h1 h2
 simp only [dT] at h1 h2
 omega
abbrev MwP := Nat × UInt8 × Bl × List (Bl × Nat) × Nat × Nat
def mwS1 (m : MsT) (p : MwP) (f : Nat -> Option Value) : Fs := ⟨slots 7 [(1, pt 0), (2, pt 1), (3, pt 2), (9, pt 4), (59, trQ m.q), (60, .int .i64 (m.q.length : Nat)), (61, .int .i64 (p.1 : Nat))] f, heap 3 [(0, .cells [.int .i64 m.id, .int .i64 m.fl, trQ m.q, trR m.an, trR m.ns, trR m.ar] 25), (1, .cells [sq 3 (p.2.2.1.length + 1) U] 28), (2, .cells [.int .i64 0] 29), (3, .cells ((p.2.1 :: p.2.2.1).map byV) 5), (4, .cells [.map (some 5), .int .i64 (p.2.2.2.2.1 : Int)] 98), (5, .map (encT p.2.2.2.1) p.2.2.2.2.2)], 6, [], [.call 42 [pt 2, pt 1] []]⟩
def mwSt (p : MwP) : MwS := ⟨p.2.1 :: p.2.2.1, p.2.2.2.1, p.2.2.2.2.1⟩
def mwHd (m : MsT) : UInt8 × Bl := (hi8 m.id.toNat, [lo8 m.id.toNat, hi8 m.fl.toNat, lo8 m.fl.toNat, hi8 m.q.length, lo8 m.q.length, hi8 m.an.length, lo8 m.an.length, hi8 m.ns.length, lo8 m.ns.length, hi8 m.ar.length, lo8 m.ar.length])
def mwS2 (m : MsT) (k : Int) (yl : List RcX) (p : MwP) (f : Nat -> Option Value) : Fs := ⟨slots 7 [(2, pt 1), (3, pt 2), (9, pt 4), (80, .agg #[.pointer (some ⟨0, 3, none⟩), .pointer (some ⟨0, 4, none⟩), .pointer (some ⟨0, 5, none⟩)]), (81, .int .i64 k), (86, trR yl), (87, .int .i64 (yl.length : Nat)), (88, .int .i64 (p.1 : Nat))] f, heap 3 [(0, .cells [.int .i64 m.id, .int .i64 m.fl, trQ m.q, trR m.an, trR m.ns, trR m.ar] 25), (1, .cells [sq 3 (p.2.2.1.length + 1) U] 28), (2, .cells [.int .i64 0] 29), (3, .cells ((p.2.1 :: p.2.2.1).map byV) 5), (4, .cells [.map (some 5), .int .i64 (p.2.2.2.2.1 : Int)] 98), (5, .map (encT p.2.2.2.1) p.2.2.2.2.2)], 6, [], [.call 42 [pt 2, pt 1] []]⟩
theorem mw_start (m : MsT) : mwInv ⟨m.head, [], 0⟩ m.items 0 ⟨(mwHd m).1 :: (mwHd m).2, [], 0⟩ :=
 ⟨Nat.le_add_left _ _, aJ _, aJ _, ⟨List.nodup_nil, fun _ h => by cases h⟩, .inl ⟨(by decide : 12 <= 65535), rfl⟩⟩
theorem items_q {m : MsT} {i : Nat} (h : i < m.q.length) (hI : i < m.items.length) : m.items[i] = .inl m.q[i] := by
 have e : m.items[i]? = some (.inl m.q[i]) := by
  unfold MsT.items
  rw [List.getElem?_append_left (by simpa using h), List.getElem?_map, gG h]; rfl
 exact Option.some.inj ((gG hI).symm.trans e)
theorem zTe {all pre post : List MwI} {l : List RcX} (e : all = pre ++ (l.map .inr ++ post)) {i : Nat} (h : i < l.length) {k : Nat} (hk : k = pre.length + i) (hI : k < all.length) : all[k] = .inr l[i] := by
 have e : all[k]? = some (.inr l[i]) := by
  rw [e, hk, List.getElem?_append_right (Nat.le_add_right _ _), Nat.add_sub_cancel_left, List.getElem?_append_left (by simpa using h), List.getElem?_map, gG h]; rfl
 exact Option.some.inj ((gG hI).symm.trans e)
theorem apC {sz by' la lb t : Nat} {C N : List Value} (h1 : sz = 1) (h2 : by' = 1) (hC : C.length = la) (hN : N.length = lb) (ho : oneL N = true) (h3 : la + lb <= 1000000000) (h4 : 0 < lb) : (Nat.beq 0 0 && Nat.beq t t && (la * sz).ble C.length && oneL N && decide ((la + lb) * by' <= 140737488355328) && decide (la + lb <= 9223372036854775807) && C.length.blt (0 + la * sz + N.length)) = true := by
 subst h1; subst h2
 simp only [bA, dT]
 exact ⟨⟨⟨⟨⟨⟨rfl, by simp⟩, bL (by omega)⟩, ho⟩, by omega⟩, by omega⟩, bL (by omega)⟩
theorem ec_of (u : UInt8) (us : Bl) (v : UInt8) (vs : Bl) : (List.take ((us.length + 1) * 1) (byV u :: us.map byV)) ++ (v :: vs).map byV = (u :: (us ++ v :: vs)).map byV := by rw [aR, aD (by simp)]; simp
theorem zNw {σ : Nat -> Nat -> Prop} {b c : Nat} {t : TypeId} (h : σ b c) (us : Bl) (v : UInt8) (vs : Bl) : RO Try.prog σ (.cells [sq b (us.length + 1 + (v :: vs).length) U] t) (.cells [sq c ((us ++ v :: vs).length + 1) U] t) := by
 rw [show us.length + 1 + (v :: vs).length = (us ++ v :: vs).length + 1 by simp; omega]; exact zBb h
theorem zFd {m : MsT} (h0 : m.chk = 0) (h : mwF ⟨m.head, [], 0⟩ m.items = none) : m.wr = (3, []) := by
 unfold MsT.wr; rw [if_neg (aL h0), h]
theorem wr_some {m : MsT} {s : MwS} (h0 : m.chk = 0) (h : mwF ⟨m.head, [], 0⟩ m.items = some s) : m.wr = (0, s.out) := by
 unfold MsT.wr; rw [if_neg (aL h0), h]
theorem zXk (m : MsT) (hm : m.okM) (hk : m.fit 1000) : ∃ r, FnS Try.prog 0 12 [m.v] .e 0 r /\ ∃ H k wr b, r = .ret (.tuple #[ovN b m.wr.2, .int .i64 m.wr.1]) H k wr /\ (m.wr.2 ≠ [] -> b < JJ /\ H.get b = some (.cells (m.wr.2.map byV) 5)) := by
 have h1s : (Try.prog.types[5]).size = 1 := by kernel_rfl
 have hby : (Try.prog.types[5]).bytes = 1 := by kernel_rfl
 refine zVe mixed tbMw3 [] Try.func12 (c := bodyOf Try.f12) (by kernel_rfl) ?_
 refine eI m.lt (aI ⟨rfl, m.lt_at _, hm⟩ ?_)
 refine ifK (fun g => ?_) (fun g => ?_)
 ·have g : m.chk ≠ 0 := by have g : (m.chk != 0) = true := g; simpa using g
  refine aI rfl (zAj (rcq [1, 2] (d := 7) (d2 := 2) (lv := [(2, pt 0), (3, pt 1)]) (bs := [(0, .cells [.slice none 0 0] 28), (1, .cells [.int .i64 m.chk] 29)]) (W := []) (m := 2) (df := [.call 42 [pt 1, pt 0] []]) ⟨(sP rfl rfl), (sP rfl rfl), tv⟩ ⟨bpo rfl, bpo rfl, tv⟩ (.fn _ _ _ _ _ _ _ (.cons _ _ _ _ (.ptr _ _ _ rfl) (.cons _ _ _ _ (.ptr _ _ _ rfl) .nil)) .nil .nil)) (fun f => ?_))
  refine Eq.mpr (mw_e1 m.chk g _ f) ?_
  have e : m.wr = (m.chk, []) := by unfold MsT.wr; rw [if_pos g]
  rw [e]
  exact ⟨_, _, _, 0, rfl, fun h => ab rfl h⟩
 have g0 : m.chk = 0 := by have g : (m.chk != 0) = false := g; simpa using g
 refine LW.round ?_
 refine zAt tbMw3 [] 0 _ none mixed _ _ _ ?_
 obtain ⟨c1, c2, c3, c4, c5, c6⟩ := zVr g0
 refine eI m.id.toNat (aI ⟨by rw [Int.toNat_of_nonneg c1.1], by omega⟩ ?_)
 refine LW.round ?_
 refine zAt tbMw3 [] 0 _ none mixed _ _ _ ?_
 refine eI m.fl.toNat (aI ⟨by rw [Int.toNat_of_nonneg c2.1], by omega⟩ ?_)
 refine aI (by kernel_rfl) ?_
 refine LW.round ?_
 refine zAt tbMw3 [] 0 _ none mixed _ _ _ ?_
 refine eI m.q.length (aI ⟨rfl, by omega⟩ ?_)
 refine aI (by kernel_rfl) ?_
 refine LW.round ?_
 refine zAt tbMw3 [] 0 _ none mixed _ _ _ ?_
 refine eI m.an.length (aI ⟨rfl, by omega⟩ ?_)
 refine aI (by kernel_rfl) ?_
 refine LW.round ?_
 refine zAt tbMw3 [] 0 _ none mixed _ _ _ ?_
 refine eI m.ns.length (aI ⟨rfl, by omega⟩ ?_)
 refine aI (by kernel_rfl) ?_
 refine LW.round ?_
 refine zAt tbMw3 [] 0 _ none mixed _ _ _ ?_
 refine eI m.ar.length (aI ⟨rfl, by omega⟩ ?_)
 refine aI (by kernel_rfl) ?_
 refine LW.round ?_
 refine zAt tbMw3 [] 0 _ none mixed _ _ _ ?_
 refine zAr (mwS1 m) (fun p => m.q.length - p.1) (fun p => p.1 <= m.q.length /\ mwInv ⟨m.head, [], 0⟩ m.items p.1 (mwSt p)) (0, (mwHd m).1, (mwHd m).2, [], 0, 0) ⟨aH _, mw_start m⟩ ?_ ?_
 ·exact rcq [0, 1, 2, 15, 17, 16] ⟨(sP rfl rfl), (sP rfl rfl), (sP rfl rfl), (sP rfl rfl), ⟨_, rfl, zAh 8 rfl⟩, (sI rfl), (sI rfl), tv⟩ ⟨⟨by decide, _, rfl, RO.clos rfl⟩, ⟨by decide, _, rfl, zBb rfl⟩, bpo rfl, ⟨by decide, _, rfl, zAv rfl (zAb _)⟩, ⟨by decide, _, rfl, zAy 16 5 (by exact rfl) 0⟩, ⟨by decide, _, rfl, by show RO _ _ (.map (encT []) 0) (.map (encT []) 0); exact RO.map _ _ _ (zAl _)⟩, tv⟩ (.fn _ _ _ _ _ _ _ (.cons _ _ _ _ (.ptr _ _ _ rfl) (.cons _ _ _ _ (.ptr _ _ _ rfl) .nil)) .nil .nil)
 rintro ⟨i, u, us, T, en, ck⟩ f ⟨hi, hinv⟩
 have hi : i <= m.q.length := hi
 have hinv : mwInv ⟨m.head, [], 0⟩ m.items i ⟨u :: us, T, en⟩ := hinv
 refine zAt tbMw3 [7] 0 _ none mixed _ _ _ ?_
 have hI : m.items.length = m.q.length + (m.an.length + (m.ns.length + m.ar.length)) := by unfold MsT.items; simp
 obtain ⟨k1, k2, k3, k4⟩ := hk
 refine ifK (fun h1 => ?_) (fun h1 => ?_)
 ·have h1 : i < m.q.length := by have h1 : ((i : Nat) : Int) < (m.q.length : Int) := oT h1; omega
  have hiI : i < m.items.length := by omega
  have hit : m.items[i] = .inl m.q[i] := items_q h1 hiI
  refine ifK (fun _ => ?_) (fun h2 => ab h2 (by simp [inI]; omega))
  refine eI m.q[i].n (eI m.q[i].t (eI m.q[i].c (aI (zCm layQ h1) ?_)))
  obtain ⟨R, hR⟩ : ∃ R, mwD ⟨u :: us, T, en⟩ m.items[i] = R := ⟨_, rfl⟩
  have hD : askD en T ((us.length + 1 : Nat) : Int) m.q[i].n m.q[i].t m.q[i].c = R := by rw [<- hR, hit]; rfl
  obtain ⟨r1, r2, r3, r4, r5⟩ := zLj _ _ hR
  have hsh := hm.1 _ (aV h1)
  obtain ⟨e, o, F, en'⟩ := R
  by_cases he : e = 0
  ·subst he
   obtain ⟨v, vs, rfl⟩ : ∃ v vs, o = v :: vs := by
    cases o with
    | nil => exact ab rfl (r3 rfl)
    | cons v vs => exact ⟨v, vs, rfl⟩
   refine eI (⟨4, 5, en, T, ck, ⟨((us.length + 1 : Nat) : Int), m.q[i].n, m.q[i].t, m.q[i].c⟩, 0, v :: vs, F, en'⟩ : PkY AskY) (aI ⟨rfl, (show Tr.get _ 4 = some (AObj.cells [.map (some 5), .int .i64 (en : Int)] _) from rfl), (show Tr.get _ 5 = some (AObj.map (encT T) ck) from rfl), hinv.gd, hsh, hD⟩ ?_)
   refine eI ((v :: vs).map byV) (aI (zLy (l := v :: vs) h1s rfl) ?_)
   have hul : us.length + 1 <= 12 + 70000 * i := hinv.hi
   have hvl : vs.length + 1 <= 70000 := r1
   refine aI (apC h1s hby (by simp) (by simp) (oneB _) (by simp; omega) (by simp)) ?_
   refine ⟨(i + 1, u, us ++ v :: vs, T ++ F, en', ck + F.length), ⟨h1, hinv.next hiI hR rfl⟩, by show m.q.length - (i + 1) < m.q.length - i; omega, ?_⟩
   exact rcq [0, 1, 2, 8, 4, 5] ⟨(sP rfl rfl), (sP rfl rfl), (sP rfl rfl), (sP rfl rfl), ⟨_, rfl, zAh 8 rfl⟩, (sI rfl), zAc rfl (by rw [wrapN (by omega) (by omega)]; omega), tv⟩ ⟨⟨by decide, _, rfl, RO.clos rfl⟩, ⟨by decide, _, rfl, by refine zNw ?_ us v vs; rfl⟩, bpo rfl, ⟨by decide, _, rfl, zAv (by rw [<- ec_of u us v vs]; rfl) (zAb _)⟩, ⟨by decide, _, rfl, zAy 5 5 (by exact rfl) _⟩, ⟨by decide, _, rfl, RO.map _ _ _ (zAl _)⟩, tv⟩ (.fn _ _ _ _ _ _ _ (.cons _ _ _ _ (.ptr _ _ _ rfl) (.cons _ _ _ _ (.ptr _ _ _ rfl) .nil)) .nil .nil)
  have ho : o = [] := r4 he
  subst ho
  refine eI (⟨4, 5, en, T, ck, ⟨((us.length + 1 : Nat) : Int), m.q[i].n, m.q[i].t, m.q[i].c⟩, e, [], F, en'⟩ : PkY AskY) (aI ⟨rfl, (show Tr.get _ 4 = some (AObj.cells [.map (some 5), .int .i64 (en : Int)] _) from rfl), (show Tr.get _ 5 = some (AObj.map (encT T) ck) from rfl), hinv.gd, hsh, hD⟩ ?_)
  refine ifK (fun _ => ?_) (fun g => ab (show (e != 0) = false from g) (by simpa using he))
  refine aI rfl (zDj (a := 1) (b := 2) (c := 3) (e := 3) (u := u) (us := us) rfl (by decide) (by decide) rfl rfl rfl rfl rfl rfl rfl rfl rfl rfl (fun f => ?_))
  refine aI rfl (zDj (a := 0) (b := 1) (c := 2) (e := 3) (u := u) (us := us) rfl (by decide) (by decide) rfl rfl rfl rfl rfl rfl rfl rfl rfl rfl (fun f => ?_))
  refine Eq.mpr (zQy u us _ f) ?_
  rw [zFd g0 (hinv.bad hiI hR he)]
  exact ⟨_, _, _, 0, rfl, fun h => ab rfl h⟩
 have h1 : ¬ i < m.q.length := by have h1 : ¬ ((i : Nat) : Int) < (m.q.length : Int) := oF h1; omega
 have h1 : i = m.q.length := by omega
 subst h1
 refine aI rfl (zAj (rcq [0, 1, 2, 3, 4, 5] (d := 7) (d2 := 3) (lv := [(1, pt 0), (2, pt 1), (3, pt 2), (9, pt 4)]) (bs := [(0, .cells [.int .i64 m.id, .int .i64 m.fl, trQ m.q, trR m.an, trR m.ns, trR m.ar] 25), (1, .cells [sq 3 (us.length + 1) U] 28), (2, .cells [.int .i64 0] 29), (3, .cells ((u :: us).map byV) 5), (4, .cells [.map (some 5), .int .i64 (en : Int)] 98), (5, .map (encT T) ck)]) (W := []) (m := 6) (df := [.call 42 [pt 2, pt 1] []]) ⟨(sP rfl rfl), (sP rfl rfl), (sP rfl rfl), (sP rfl rfl), tv⟩ ⟨⟨by decide, _, rfl, RO.clos rfl⟩, ⟨by decide, _, rfl, zBb rfl⟩, bpo rfl, bpo (zAb _), ⟨by decide, _, rfl, zAy 5 5 (by exact rfl) _⟩, ⟨by decide, _, rfl, RO.map _ _ _ (zAl _)⟩, tv⟩ (.fn _ _ _ _ _ _ _ (.cons _ _ _ _ (.ptr _ _ _ rfl) (.cons _ _ _ _ (.ptr _ _ _ rfl) .nil)) .nil .nil)) (fun f => ?_))
 refine aI (by kernel_rfl) ?_
 refine LW.round ?_
 refine zAt tbMw3 [] 0 _ none mixed _ _ _ ?_
 refine zAr (mwS2 m 0 m.an) (fun p => m.an.length - p.1) (fun p => p.1 <= m.an.length /\ mwInv ⟨m.head, [], 0⟩ m.items (m.q.length + p.1) (mwSt p)) (0, u, us, T, en, ck) ⟨aH _, hinv⟩ ?_ ?_
 ·exact rcq [0, 1, 2, 3, 4, 5] ⟨(sP rfl rfl), (sP rfl rfl), (sP rfl rfl), ⟨_, rfl, .agg _ _ (.cons _ _ _ _ (.ptr _ _ _ rfl) (.cons _ _ _ _ (.ptr _ _ _ rfl) (.cons _ _ _ _ (.ptr _ _ _ rfl) .nil)))⟩, (sI rfl), ⟨_, rfl, zAh 8 rfl⟩, (sI rfl), (sI rfl), tv⟩ ⟨⟨by decide, _, rfl, RO.clos rfl⟩, ⟨by decide, _, rfl, zBb rfl⟩, bpo rfl, bpo (zAb _), ⟨by decide, _, rfl, zAy 5 5 (by exact rfl) _⟩, ⟨by decide, _, rfl, RO.map _ _ _ (zAl _)⟩, tv⟩ (.fn _ _ _ _ _ _ _ (.cons _ _ _ _ (.ptr _ _ _ rfl) (.cons _ _ _ _ (.ptr _ _ _ rfl) .nil)) .nil .nil)
 rintro ⟨i, u, us, T, en, ck⟩ f ⟨hi, hinv⟩
 have hi : i <= m.an.length := hi
 have hinv : mwInv ⟨m.head, [], 0⟩ m.items (m.q.length + i) ⟨u :: us, T, en⟩ := hinv
 refine zAt tbMw3 [7] 0 _ none mixed _ _ _ ?_
 refine ifK (fun h1 => ?_) (fun h1 => ?_)
 ·have h1 : i < m.an.length := by have h1 : ((i : Nat) : Int) < (m.an.length : Int) := oT h1; omega
  have hiI : m.q.length + i < m.items.length := by omega
  have hit : m.items[m.q.length + i] = .inr m.an[i] := zTe (pre := m.q.map .inl) (post := m.ns.map .inr ++ m.ar.map .inr) (by unfold MsT.items; simp) h1 (by simp <;> omega) hiI
  refine ifK (fun _ => ?_) (fun h2 => ab h2 (by simp [inI]; omega))
  refine eI m.an[i].n (eI m.an[i].t (eI m.an[i].c (eI m.an[i].ttl (eI m.an[i].d (aI (zCm layR h1) ?_)))))
  obtain ⟨R, hR⟩ : ∃ R, mwD ⟨u :: us, T, en⟩ m.items[m.q.length + i] = R := ⟨_, rfl⟩
  have hD : recD en T ((us.length + 1 : Nat) : Int) m.an[i] = R := by rw [<- hR, hit]; rfl
  obtain ⟨r1, r2, r3, r4, r5⟩ := zLj _ _ hR
  have hok := hm.2.1 _ (aV h1)
  obtain ⟨e, o, F, en'⟩ := R
  by_cases he : e = 0
  ·subst he
   obtain ⟨v, vs, rfl⟩ : ∃ v vs, o = v :: vs := by
    cases o with
    | nil => exact ab rfl (r3 rfl)
    | cons v vs => exact ⟨v, vs, rfl⟩
   refine eI (⟨4, 5, en, T, ck, ⟨((us.length + 1 : Nat) : Int), m.an[i]⟩, 0, v :: vs, F, en'⟩ : PkY WrtY) (aI ⟨rfl, (show Tr.get _ 4 = some (AObj.cells [.map (some 5), .int .i64 (en : Int)] _) from rfl), (show Tr.get _ 5 = some (AObj.map (encT T) ck) from rfl), hinv.gd, hok, hD⟩ ?_)
   refine ifK (fun h2 => ?_) (fun h2 => ?_)
   ·refine aI rfl (zDj (a := 1) (b := 2) (c := 3) (e := 3) (u := u) (us := us) rfl (by decide) (by decide) rfl rfl rfl rfl rfl rfl rfl rfl rfl rfl (fun f => ?_))
    refine aI rfl (zDj (a := 0) (b := 1) (c := 2) (e := 3) (u := u) (us := us) rfl (by decide) (by decide) rfl rfl rfl rfl rfl rfl rfl rfl rfl rfl (fun f => ?_))
    refine Eq.mpr (zQy u us _ f) ?_
    rw [zFd g0 (hinv.long (by have h2 : (((us.length + 1 : Nat) : Int)) > 65535 := oT h2; show 65535 < us.length + 1; omega))]
    exact ⟨_, _, _, 0, rfl, fun h => ab rfl h⟩
   refine eI ((v :: vs).map byV) (aI (zLy (l := v :: vs) h1s rfl) ?_)
   have hul : us.length + 1 <= 12 + 70000 * (m.q.length + i) := hinv.hi
   have hvl : vs.length + 1 <= 70000 := r1
   refine aI (apC h1s hby (by simp) (by simp) (oneB _) (by simp; omega) (by simp)) ?_
   refine ⟨(i + 1, u, us ++ v :: vs, T ++ F, en', ck + F.length), ⟨h1, hinv.next hiI hR rfl⟩, by show m.an.length - (i + 1) < m.an.length - i; omega, ?_⟩
   exact rcq [0, 1, 2, 8, 4, 5] ⟨(sP rfl rfl), (sP rfl rfl), (sP rfl rfl), ⟨_, rfl, .agg _ _ (.cons _ _ _ _ (.ptr _ _ _ rfl) (.cons _ _ _ _ (.ptr _ _ _ rfl) (.cons _ _ _ _ (.ptr _ _ _ rfl) .nil)))⟩, (sI rfl), ⟨_, rfl, zAh 8 rfl⟩, (sI rfl), zAc rfl (by rw [wrapN (by omega) (by omega)]; omega), tv⟩ ⟨⟨by decide, _, rfl, RO.clos rfl⟩, ⟨by decide, _, rfl, by refine zNw ?_ us v vs; rfl⟩, bpo rfl, ⟨by decide, _, rfl, zAv (by rw [<- ec_of u us v vs]; rfl) (zAb _)⟩, ⟨by decide, _, rfl, zAy 5 5 (by exact rfl) _⟩, ⟨by decide, _, rfl, RO.map _ _ _ (zAl _)⟩, tv⟩ (.fn _ _ _ _ _ _ _ (.cons _ _ _ _ (.ptr _ _ _ rfl) (.cons _ _ _ _ (.ptr _ _ _ rfl) .nil)) .nil .nil)
  have ho : o = [] := r4 he
  subst ho
  refine eI (⟨4, 5, en, T, ck, ⟨((us.length + 1 : Nat) : Int), m.an[i]⟩, e, [], F, en'⟩ : PkY WrtY) (aI ⟨rfl, (show Tr.get _ 4 = some (AObj.cells [.map (some 5), .int .i64 (en : Int)] _) from rfl), (show Tr.get _ 5 = some (AObj.map (encT T) ck) from rfl), hinv.gd, hok, hD⟩ ?_)
  refine ifK (fun _ => ?_) (fun g => ab (show (e != 0) = false from g) (by simpa using he))
  refine aI rfl (zDj (a := 1) (b := 2) (c := 3) (e := 3) (u := u) (us := us) rfl (by decide) (by decide) rfl rfl rfl rfl rfl rfl rfl rfl rfl rfl (fun f => ?_))
  refine aI rfl (zDj (a := 0) (b := 1) (c := 2) (e := 3) (u := u) (us := us) rfl (by decide) (by decide) rfl rfl rfl rfl rfl rfl rfl rfl rfl rfl (fun f => ?_))
  refine Eq.mpr (zQy u us _ f) ?_
  rw [zFd g0 (hinv.bad hiI hR he)]
  exact ⟨_, _, _, 0, rfl, fun h => ab rfl h⟩
 have h1 : ¬ i < m.an.length := by have h1 : ¬ ((i : Nat) : Int) < (m.an.length : Int) := oF h1; omega
 have h1 : i = m.an.length := by omega
 subst h1
 refine aI rfl (zAj (rcq [0, 1, 2, 3, 4, 5] (d := 7) (d2 := 3) (lv := [(2, pt 1), (3, pt 2), (9, pt 4), (80, .agg #[.pointer (some ⟨0, 3, none⟩), .pointer (some ⟨0, 4, none⟩), .pointer (some ⟨0, 5, none⟩)]), (81, .int .i64 0)]) (bs := [(0, .cells [.int .i64 m.id, .int .i64 m.fl, trQ m.q, trR m.an, trR m.ns, trR m.ar] 25), (1, .cells [sq 3 (us.length + 1) U] 28), (2, .cells [.int .i64 0] 29), (3, .cells ((u :: us).map byV) 5), (4, .cells [.map (some 5), .int .i64 (en : Int)] 98), (5, .map (encT T) ck)]) (W := []) (m := 6) (df := [.call 42 [pt 2, pt 1] []]) ⟨(sP rfl rfl), (sP rfl rfl), (sP rfl rfl), ⟨_, rfl, .agg _ _ (.cons _ _ _ _ (.ptr _ _ _ rfl) (.cons _ _ _ _ (.ptr _ _ _ rfl) (.cons _ _ _ _ (.ptr _ _ _ rfl) .nil)))⟩, (sI rfl), tv⟩ ⟨⟨by decide, _, rfl, RO.clos rfl⟩, ⟨by decide, _, rfl, zBb rfl⟩, bpo rfl, bpo (zAb _), ⟨by decide, _, rfl, zAy 5 5 (by exact rfl) _⟩, ⟨by decide, _, rfl, RO.map _ _ _ (zAl _)⟩, tv⟩ (.fn _ _ _ _ _ _ _ (.cons _ _ _ _ (.ptr _ _ _ rfl) (.cons _ _ _ _ (.ptr _ _ _ rfl) .nil)) .nil .nil)) (fun f => ?_))
 refine LW.round ?_
 refine zAt tbMw3 [] 0 _ none mixed _ _ _ ?_
 refine zAr (mwS2 m 1 m.ns) (fun p => m.ns.length - p.1) (fun p => p.1 <= m.ns.length /\ mwInv ⟨m.head, [], 0⟩ m.items (m.q.length + m.an.length + p.1) (mwSt p)) (0, u, us, T, en, ck) ⟨aH _, hinv⟩ ?_ ?_
 ·exact rcq [0, 1, 2, 3, 4, 5] ⟨(sP rfl rfl), (sP rfl rfl), (sP rfl rfl), ⟨_, rfl, .agg _ _ (.cons _ _ _ _ (.ptr _ _ _ rfl) (.cons _ _ _ _ (.ptr _ _ _ rfl) (.cons _ _ _ _ (.ptr _ _ _ rfl) .nil)))⟩, (sI rfl), ⟨_, rfl, zAh 8 rfl⟩, (sI rfl), (sI rfl), tv⟩ ⟨⟨by decide, _, rfl, RO.clos rfl⟩, ⟨by decide, _, rfl, zBb rfl⟩, bpo rfl, bpo (zAb _), ⟨by decide, _, rfl, zAy 5 5 (by exact rfl) _⟩, ⟨by decide, _, rfl, RO.map _ _ _ (zAl _)⟩, tv⟩ (.fn _ _ _ _ _ _ _ (.cons _ _ _ _ (.ptr _ _ _ rfl) (.cons _ _ _ _ (.ptr _ _ _ rfl) .nil)) .nil .nil)
 rintro ⟨i, u, us, T, en, ck⟩ f ⟨hi, hinv⟩
 have hi : i <= m.ns.length := hi
 have hinv : mwInv ⟨m.head, [], 0⟩ m.items (m.q.length + m.an.length + i) ⟨u :: us, T, en⟩ := hinv
 refine zAt tbMw3 [7] 0 _ none mixed _ _ _ ?_
 refine ifK (fun h1 => ?_) (fun h1 => ?_)
 ·have h1 : i < m.ns.length := by have h1 : ((i : Nat) : Int) < (m.ns.length : Int) := oT h1; omega
  have hiI : m.q.length + m.an.length + i < m.items.length := by omega
  have hit : m.items[m.q.length + m.an.length + i] = .inr m.ns[i] := zTe (pre := m.q.map .inl ++ m.an.map .inr) (post := m.ar.map .inr) (by unfold MsT.items; simp) h1 (by simp <;> omega) hiI
  refine ifK (fun _ => ?_) (fun h2 => ab h2 (by simp [inI]; omega))
  refine eI m.ns[i].n (eI m.ns[i].t (eI m.ns[i].c (eI m.ns[i].ttl (eI m.ns[i].d (aI (zCm layR h1) ?_)))))
  obtain ⟨R, hR⟩ : ∃ R, mwD ⟨u :: us, T, en⟩ m.items[m.q.length + m.an.length + i] = R := ⟨_, rfl⟩
  have hD : recD en T ((us.length + 1 : Nat) : Int) m.ns[i] = R := by rw [<- hR, hit]; rfl
  obtain ⟨r1, r2, r3, r4, r5⟩ := zLj _ _ hR
  have hok := hm.2.2.1 _ (aV h1)
  obtain ⟨e, o, F, en'⟩ := R
  by_cases he : e = 0
  ·subst he
   obtain ⟨v, vs, rfl⟩ : ∃ v vs, o = v :: vs := by
    cases o with
    | nil => exact ab rfl (r3 rfl)
    | cons v vs => exact ⟨v, vs, rfl⟩
   refine eI (⟨4, 5, en, T, ck, ⟨((us.length + 1 : Nat) : Int), m.ns[i]⟩, 0, v :: vs, F, en'⟩ : PkY WrtY) (aI ⟨rfl, (show Tr.get _ 4 = some (AObj.cells [.map (some 5), .int .i64 (en : Int)] _) from rfl), (show Tr.get _ 5 = some (AObj.map (encT T) ck) from rfl), hinv.gd, hok, hD⟩ ?_)
   refine ifK (fun h2 => ?_) (fun h2 => ?_)
   ·refine aI rfl (zDj (a := 1) (b := 2) (c := 3) (e := 3) (u := u) (us := us) rfl (by decide) (by decide) rfl rfl rfl rfl rfl rfl rfl rfl rfl rfl (fun f => ?_))
    refine aI rfl (zDj (a := 0) (b := 1) (c := 2) (e := 3) (u := u) (us := us) rfl (by decide) (by decide) rfl rfl rfl rfl rfl rfl rfl rfl rfl rfl (fun f => ?_))
    refine Eq.mpr (zQy u us _ f) ?_
    rw [zFd g0 (hinv.long (by have h2 : (((us.length + 1 : Nat) : Int)) > 65535 := oT h2; show 65535 < us.length + 1; omega))]
    exact ⟨_, _, _, 0, rfl, fun h => ab rfl h⟩
   refine eI ((v :: vs).map byV) (aI (zLy (l := v :: vs) h1s rfl) ?_)
   have hul : us.length + 1 <= 12 + 70000 * (m.q.length + m.an.length + i) := hinv.hi
   have hvl : vs.length + 1 <= 70000 := r1
   refine aI (apC h1s hby (by simp) (by simp) (oneB _) (by simp; omega) (by simp)) ?_
   refine ⟨(i + 1, u, us ++ v :: vs, T ++ F, en', ck + F.length), ⟨h1, hinv.next hiI hR rfl⟩, by show m.ns.length - (i + 1) < m.ns.length - i; omega, ?_⟩
   exact rcq [0, 1, 2, 8, 4, 5] ⟨(sP rfl rfl), (sP rfl rfl), (sP rfl rfl), ⟨_, rfl, .agg _ _ (.cons _ _ _ _ (.ptr _ _ _ rfl) (.cons _ _ _ _ (.ptr _ _ _ rfl) (.cons _ _ _ _ (.ptr _ _ _ rfl) .nil)))⟩, (sI rfl), ⟨_, rfl, zAh 8 rfl⟩, (sI rfl), zAc rfl (by rw [wrapN (by omega) (by omega)]; omega), tv⟩ ⟨⟨by decide, _, rfl, RO.clos rfl⟩, ⟨by decide, _, rfl, by refine zNw ?_ us v vs; rfl⟩, bpo rfl, ⟨by decide, _, rfl, zAv (by rw [<- ec_of u us v vs]; rfl) (zAb _)⟩, ⟨by decide, _, rfl, zAy 5 5 (by exact rfl) _⟩, ⟨by decide, _, rfl, RO.map _ _ _ (zAl _)⟩, tv⟩ (.fn _ _ _ _ _ _ _ (.cons _ _ _ _ (.ptr _ _ _ rfl) (.cons _ _ _ _ (.ptr _ _ _ rfl) .nil)) .nil .nil)
  have ho : o = [] := r4 he
  subst ho
  refine eI (⟨4, 5, en, T, ck, ⟨((us.length + 1 : Nat) : Int), m.ns[i]⟩, e, [], F, en'⟩ : PkY WrtY) (aI ⟨rfl, (show Tr.get _ 4 = some (AObj.cells [.map (some 5), .int .i64 (en : Int)] _) from rfl), (show Tr.get _ 5 = some (AObj.map (encT T) ck) from rfl), hinv.gd, hok, hD⟩ ?_)
  refine ifK (fun _ => ?_) (fun g => ab (show (e != 0) = false from g) (by simpa using he))
  refine aI rfl (zDj (a := 1) (b := 2) (c := 3) (e := 3) (u := u) (us := us) rfl (by decide) (by decide) rfl rfl rfl rfl rfl rfl rfl rfl rfl rfl (fun f => ?_))
  refine aI rfl (zDj (a := 0) (b := 1) (c := 2) (e := 3) (u := u) (us := us) rfl (by decide) (by decide) rfl rfl rfl rfl rfl rfl rfl rfl rfl rfl (fun f => ?_))
  refine Eq.mpr (zQy u us _ f) ?_
  rw [zFd g0 (hinv.bad hiI hR he)]
  exact ⟨_, _, _, 0, rfl, fun h => ab rfl h⟩
 have h1 : ¬ i < m.ns.length := by have h1 : ¬ ((i : Nat) : Int) < (m.ns.length : Int) := oF h1; omega
 have h1 : i = m.ns.length := by omega
 subst h1
 refine aI rfl (zAj (rcq [0, 1, 2, 3, 4, 5] (d := 7) (d2 := 3) (lv := [(2, pt 1), (3, pt 2), (9, pt 4), (80, .agg #[.pointer (some ⟨0, 3, none⟩), .pointer (some ⟨0, 4, none⟩), .pointer (some ⟨0, 5, none⟩)]), (81, .int .i64 1)]) (bs := [(0, .cells [.int .i64 m.id, .int .i64 m.fl, trQ m.q, trR m.an, trR m.ns, trR m.ar] 25), (1, .cells [sq 3 (us.length + 1) U] 28), (2, .cells [.int .i64 0] 29), (3, .cells ((u :: us).map byV) 5), (4, .cells [.map (some 5), .int .i64 (en : Int)] 98), (5, .map (encT T) ck)]) (W := []) (m := 6) (df := [.call 42 [pt 2, pt 1] []]) ⟨(sP rfl rfl), (sP rfl rfl), (sP rfl rfl), ⟨_, rfl, .agg _ _ (.cons _ _ _ _ (.ptr _ _ _ rfl) (.cons _ _ _ _ (.ptr _ _ _ rfl) (.cons _ _ _ _ (.ptr _ _ _ rfl) .nil)))⟩, (sI rfl), tv⟩ ⟨⟨by decide, _, rfl, RO.clos rfl⟩, ⟨by decide, _, rfl, zBb rfl⟩, bpo rfl, bpo (zAb _), ⟨by decide, _, rfl, zAy 5 5 (by exact rfl) _⟩, ⟨by decide, _, rfl, RO.map _ _ _ (zAl _)⟩, tv⟩ (.fn _ _ _ _ _ _ _ (.cons _ _ _ _ (.ptr _ _ _ rfl) (.cons _ _ _ _ (.ptr _ _ _ rfl) .nil)) .nil .nil)) (fun f => ?_))
 refine LW.round ?_
 refine zAt tbMw3 [] 0 _ none mixed _ _ _ ?_
 refine zAr (mwS2 m 2 m.ar) (fun p => m.ar.length - p.1) (fun p => p.1 <= m.ar.length /\ mwInv ⟨m.head, [], 0⟩ m.items (m.q.length + m.an.length + m.ns.length + p.1) (mwSt p)) (0, u, us, T, en, ck) ⟨aH _, hinv⟩ ?_ ?_
 ·exact rcq [0, 1, 2, 3, 4, 5] ⟨(sP rfl rfl), (sP rfl rfl), (sP rfl rfl), ⟨_, rfl, .agg _ _ (.cons _ _ _ _ (.ptr _ _ _ rfl) (.cons _ _ _ _ (.ptr _ _ _ rfl) (.cons _ _ _ _ (.ptr _ _ _ rfl) .nil)))⟩, (sI rfl), ⟨_, rfl, zAh 8 rfl⟩, (sI rfl), (sI rfl), tv⟩ ⟨⟨by decide, _, rfl, RO.clos rfl⟩, ⟨by decide, _, rfl, zBb rfl⟩, bpo rfl, bpo (zAb _), ⟨by decide, _, rfl, zAy 5 5 (by exact rfl) _⟩, ⟨by decide, _, rfl, RO.map _ _ _ (zAl _)⟩, tv⟩ (.fn _ _ _ _ _ _ _ (.cons _ _ _ _ (.ptr _ _ _ rfl) (.cons _ _ _ _ (.ptr _ _ _ rfl) .nil)) .nil .nil)
 rintro ⟨i, u, us, T, en, ck⟩ f ⟨hi, hinv⟩
 have hi : i <= m.ar.length := hi
 have hinv : mwInv ⟨m.head, [], 0⟩ m.items (m.q.length + m.an.length + m.ns.length + i) ⟨u :: us, T, en⟩ := hinv
 refine zAt tbMw3 [7] 0 _ none mixed _ _ _ ?_
 refine ifK (fun h1 => ?_) (fun h1 => ?_)
 ·have h1 : i < m.ar.length := by have h1 : ((i : Nat) : Int) < (m.ar.length : Int) := oT h1; omega
  have hiI : m.q.length + m.an.length + m.ns.length + i < m.items.length := by omega
  have hit : m.items[m.q.length + m.an.length + m.ns.length + i] = .inr m.ar[i] := zTe (pre := m.q.map .inl ++ (m.an.map .inr ++ m.ns.map .inr)) (post := []) (by unfold MsT.items; simp) h1 (by simp <;> omega) hiI
  refine ifK (fun _ => ?_) (fun h2 => ab h2 (by simp [inI]; omega))
  refine eI m.ar[i].n (eI m.ar[i].t (eI m.ar[i].c (eI m.ar[i].ttl (eI m.ar[i].d (aI (zCm layR h1) ?_)))))
  obtain ⟨R, hR⟩ : ∃ R, mwD ⟨u :: us, T, en⟩ m.items[m.q.length + m.an.length + m.ns.length + i] = R := ⟨_, rfl⟩
  have hD : recD en T ((us.length + 1 : Nat) : Int) m.ar[i] = R := by rw [<- hR, hit]; rfl
  obtain ⟨r1, r2, r3, r4, r5⟩ := zLj _ _ hR
  have hok := hm.2.2.2 _ (aV h1)
  obtain ⟨e, o, F, en'⟩ := R
  by_cases he : e = 0
  ·subst he
   obtain ⟨v, vs, rfl⟩ : ∃ v vs, o = v :: vs := by
    cases o with
    | nil => exact ab rfl (r3 rfl)
    | cons v vs => exact ⟨v, vs, rfl⟩
   refine eI (⟨4, 5, en, T, ck, ⟨((us.length + 1 : Nat) : Int), m.ar[i]⟩, 0, v :: vs, F, en'⟩ : PkY WrtY) (aI ⟨rfl, (show Tr.get _ 4 = some (AObj.cells [.map (some 5), .int .i64 (en : Int)] _) from rfl), (show Tr.get _ 5 = some (AObj.map (encT T) ck) from rfl), hinv.gd, hok, hD⟩ ?_)
   refine ifK (fun h2 => ?_) (fun h2 => ?_)
   ·refine aI rfl (zDj (a := 1) (b := 2) (c := 3) (e := 3) (u := u) (us := us) rfl (by decide) (by decide) rfl rfl rfl rfl rfl rfl rfl rfl rfl rfl (fun f => ?_))
    refine aI rfl (zDj (a := 0) (b := 1) (c := 2) (e := 3) (u := u) (us := us) rfl (by decide) (by decide) rfl rfl rfl rfl rfl rfl rfl rfl rfl rfl (fun f => ?_))
    refine Eq.mpr (zQy u us _ f) ?_
    rw [zFd g0 (hinv.long (by have h2 : (((us.length + 1 : Nat) : Int)) > 65535 := oT h2; show 65535 < us.length + 1; omega))]
    exact ⟨_, _, _, 0, rfl, fun h => ab rfl h⟩
   refine eI ((v :: vs).map byV) (aI (zLy (l := v :: vs) h1s rfl) ?_)
   have hul : us.length + 1 <= 12 + 70000 * (m.q.length + m.an.length + m.ns.length + i) := hinv.hi
   have hvl : vs.length + 1 <= 70000 := r1
   refine aI (apC h1s hby (by simp) (by simp) (oneB _) (by simp; omega) (by simp)) ?_
   refine ⟨(i + 1, u, us ++ v :: vs, T ++ F, en', ck + F.length), ⟨h1, hinv.next hiI hR rfl⟩, by show m.ar.length - (i + 1) < m.ar.length - i; omega, ?_⟩
   exact rcq [0, 1, 2, 8, 4, 5] ⟨(sP rfl rfl), (sP rfl rfl), (sP rfl rfl), ⟨_, rfl, .agg _ _ (.cons _ _ _ _ (.ptr _ _ _ rfl) (.cons _ _ _ _ (.ptr _ _ _ rfl) (.cons _ _ _ _ (.ptr _ _ _ rfl) .nil)))⟩, (sI rfl), ⟨_, rfl, zAh 8 rfl⟩, (sI rfl), zAc rfl (by rw [wrapN (by omega) (by omega)]; omega), tv⟩ ⟨⟨by decide, _, rfl, RO.clos rfl⟩, ⟨by decide, _, rfl, by refine zNw ?_ us v vs; rfl⟩, bpo rfl, ⟨by decide, _, rfl, zAv (by rw [<- ec_of u us v vs]; rfl) (zAb _)⟩, ⟨by decide, _, rfl, zAy 5 5 (by exact rfl) _⟩, ⟨by decide, _, rfl, RO.map _ _ _ (zAl _)⟩, tv⟩ (.fn _ _ _ _ _ _ _ (.cons _ _ _ _ (.ptr _ _ _ rfl) (.cons _ _ _ _ (.ptr _ _ _ rfl) .nil)) .nil .nil)
  have ho : o = [] := r4 he
  subst ho
  refine eI (⟨4, 5, en, T, ck, ⟨((us.length + 1 : Nat) : Int), m.ar[i]⟩, e, [], F, en'⟩ : PkY WrtY) (aI ⟨rfl, (show Tr.get _ 4 = some (AObj.cells [.map (some 5), .int .i64 (en : Int)] _) from rfl), (show Tr.get _ 5 = some (AObj.map (encT T) ck) from rfl), hinv.gd, hok, hD⟩ ?_)
  refine ifK (fun _ => ?_) (fun g => ab (show (e != 0) = false from g) (by simpa using he))
  refine aI rfl (zDj (a := 1) (b := 2) (c := 3) (e := 3) (u := u) (us := us) rfl (by decide) (by decide) rfl rfl rfl rfl rfl rfl rfl rfl rfl rfl (fun f => ?_))
  refine aI rfl (zDj (a := 0) (b := 1) (c := 2) (e := 3) (u := u) (us := us) rfl (by decide) (by decide) rfl rfl rfl rfl rfl rfl rfl rfl rfl rfl (fun f => ?_))
  refine Eq.mpr (zQy u us _ f) ?_
  rw [zFd g0 (hinv.bad hiI hR he)]
  exact ⟨_, _, _, 0, rfl, fun h => ab rfl h⟩
 have h1 : ¬ i < m.ar.length := by have h1 : ¬ ((i : Nat) : Int) < (m.ar.length : Int) := oF h1; omega
 have h1 : i = m.ar.length := by omega
 subst h1
 refine aI rfl (zAj (rcq [0, 1, 2, 3, 4, 5] (d := 7) (d2 := 3) (lv := [(2, pt 1), (3, pt 2), (9, pt 4), (80, .agg #[.pointer (some ⟨0, 3, none⟩), .pointer (some ⟨0, 4, none⟩), .pointer (some ⟨0, 5, none⟩)]), (81, .int .i64 2)]) (bs := [(0, .cells [.int .i64 m.id, .int .i64 m.fl, trQ m.q, trR m.an, trR m.ns, trR m.ar] 25), (1, .cells [sq 3 (us.length + 1) U] 28), (2, .cells [.int .i64 0] 29), (3, .cells ((u :: us).map byV) 5), (4, .cells [.map (some 5), .int .i64 (en : Int)] 98), (5, .map (encT T) ck)]) (W := []) (m := 6) (df := [.call 42 [pt 2, pt 1] []]) ⟨(sP rfl rfl), (sP rfl rfl), (sP rfl rfl), ⟨_, rfl, .agg _ _ (.cons _ _ _ _ (.ptr _ _ _ rfl) (.cons _ _ _ _ (.ptr _ _ _ rfl) (.cons _ _ _ _ (.ptr _ _ _ rfl) .nil)))⟩, (sI rfl), tv⟩ ⟨⟨by decide, _, rfl, RO.clos rfl⟩, ⟨by decide, _, rfl, zBb rfl⟩, bpo rfl, bpo (zAb _), ⟨by decide, _, rfl, zAy 5 5 (by exact rfl) _⟩, ⟨by decide, _, rfl, RO.map _ _ _ (zAl _)⟩, tv⟩ (.fn _ _ _ _ _ _ _ (.cons _ _ _ _ (.ptr _ _ _ rfl) (.cons _ _ _ _ (.ptr _ _ _ rfl) .nil)) .nil .nil)) (fun f => ?_))
 refine LW.round ?_
 refine zAt tbMw3 [] 0 _ none mixed _ _ _ ?_
 refine ifK (fun h2 => ?_) (fun h2 => ?_)
 ·refine aI rfl (zDj (a := 1) (b := 2) (c := 3) (e := 3) (u := u) (us := us) rfl (by decide) (by decide) rfl rfl rfl rfl rfl rfl rfl rfl rfl rfl (fun f => ?_))
  refine Eq.mpr (zQy u us _ f) ?_
  rw [zFd g0 (hinv.long (by have h2 : (((us.length + 1 : Nat) : Int)) > 65535 := oT h2; show 65535 < us.length + 1; omega))]
  exact ⟨_, _, _, 0, rfl, fun h => ab rfl h⟩
 refine aI rfl (zDj (a := 1) (b := 2) (c := 3) (e := 0) (u := u) (us := us) rfl (by decide) (by decide) rfl rfl rfl rfl rfl rfl rfl rfl rfl rfl (fun f => ?_))
 refine Eq.mpr (mw_e3 u us _ f) ?_
 have e : m.wr = (0, u :: us) := by
  have h2 : ¬ (((us.length + 1 : Nat) : Int)) > 65535 := oF h2
  have hI' : m.q.length + m.an.length + m.ns.length + m.ar.length = m.items.length := by omega
  have hinv : mwInv ⟨m.head, [], 0⟩ m.items m.items.length ⟨u :: us, T, en⟩ := hI' ▸ hinv
  exact wr_some g0 (hinv.fin (by show us.length + 1 <= 65535; omega))
 rw [e]
 exact ⟨_, _, _, 2, rfl, fun _ => ⟨by decide, mw_g3 u us f⟩⟩
end
section
open Go Go.RowKit
end
section
open Go Go.RowKit
end
section
open Go Go.RowKit
end
section
open Go Go.RowKit
def mwOut (e : Int) (o : Bl) (H : Tr AObj) (n : Nat) : Res := match o with
 | [] => .ret (.tuple #[.slice none 0 0, .int .i64 e]) H n []
 | u :: us => .ret (.tuple #[sq n (us.length + 1) U, .int .i64 e]) (layN H n [((u :: us).map byV, 5)]) (n + 1) []
theorem mw_call {f : FuncId} {x : LtM} {e : Int} {o : Bl} {H : Tr AObj} {n : Nat} (h : x.at H) (hw : ∃ r, FnS Try.prog 0 f [x.m.v] .e 0 r /\ ∃ H k wr b, r = .ret (.tuple #[ovN b o, .int .i64 e]) H k wr /\ (o ≠ [] -> b < JJ /\ H.get b = some (.cells (o.map byV) 5))) : CallOK Try.prog 0 f [x.v] H n (mwOut e o H n) := by
 obtain ⟨r, hF, H', k, wr, b, rfl, hb⟩ := hw
 cases o with
 | nil => exact zHb hF (.cons _ _ _ _ (LtM.frz h) .nil) (.one _ _ (.plain _ rfl))
 | cons u us =>
  obtain ⟨hJ, hg⟩ := hb (aZ _ _)
  exact zJj (fun n => .tuple #[sq n (us.length + 1) U, .int .i64 e]) [b] [((u :: us).map byV, 5)] hF (.cons _ _ _ _ (LtM.frz h) .nil) (by simp) (fun x hx => by simp at hx; subst hx; exact hJ) rfl
   (fun i b' xs e hb hc => by
    match i, hb, hc with
    | 0, hb, hc => cases hb; cases hc; exact ⟨[], by rw [aF]; exact hg, zAb _, .inl rfl⟩
    | i + 1, hb, hc => simp at hb)
   (fun n => .tuple _ _ (.cons _ _ _ _ (.sl _ _ _ _ _ (zEu (i := 0) (by simp) rfl)) (.cons _ _ _ _ (.plain _ rfl) .nil)))
noncomputable def ct_mw (f : FuncId) (hf : ∀ m : MsT, m.okM -> m.fit 1000 -> ∃ r, FnS Try.prog 0 f [m.v] .e 0 r /\ ∃ H k wr b, r = .ret (.tuple #[ovN b m.wr.2, .int .i64 m.wr.1]) H k wr /\ (m.wr.2 ≠ [] -> b < JJ /\ H.get b = some (.cells (m.wr.2.map byV) 5))) : Ct Try.prog 0 :=
 CtR.ct { f := f, X := LtM × Int × Bl, pre := fun x a H _ => a = [x.1.v] /\ x.1.at H /\ x.1.m.okM /\ x.1.m.fit 1000 /\ x.1.m.wr = (x.2.1, x.2.2), out := fun x H n => mwOut x.2.1 x.2.2 H n,
          ok := fun x a H n ⟨h1, h2, h3, h4, h5⟩ => by
           subst h1
           obtain ⟨x, e, o⟩ := x
           have h5 : x.m.wr = (e, o) := h5
           have := hf x.m h3 h4
           rw [h5] at this
           have hc : CallOK Try.prog 0 f [x.v] H n (mwOut e o H n) := mw_call h2 this
           cases o <;> exact hc,
          uniq := fun x y a H n ⟨h1, h2, _, _, h5⟩ ⟨k1, k2, _, _, k5⟩ => by
           rw [h1] at k1
           obtain ⟨x, e, o⟩ := x
           obtain ⟨y, e', o'⟩ := y
           simp only [aQ, and_true] at k1
           have := LtM.uniq k1 h2 k2
           subst this
           have := h5.symm.trans k5
           simp only [Prod.mk.injEq] at this
           obtain ⟨rfl, rfl⟩ := this
           rfl }
noncomputable def zSs : Ct Try.prog 0 := ct_mw 12 zXk
end
section
open Go Go.RowKit
end
section
open Go Go.RowKit
section
variable {P : Program} {ev : Operand -> Value} {G : Gh} {n : Nat} {o : Oper}
end
end
section
open Go Go.RowKit
end
section
open Go Go.RowKit
end
section
open Go Go.RowKit Go.Shelf
attribute [local go_sem] Oper.semAt_some
end
section
open Go Go.RowKit
end
section
open Go Go.RowKit
end
section
open Go Go.RowKit
end
section
open Go Go.RowKit
end
section
open Go Go.RowKit
end
section
open Go Go.RowKit
end
section
open Go Go.RowKit
def MsT.same (a b : MsT) : Bool := (a.id == b.id) && ((a.fl == b.fl) && (decide (a.q = b.q) && (decide (a.an = b.an) && (decide (a.ns = b.ns) && decide (a.ar = b.ar)))))
noncomputable def tbEt6 : Tb Try.prog 0 := tbOf mixed [ct_sameQT, zXa]
theorem sameM_tr (a b : MsT) (hf : a.fit 1000000) : ∃ r, FnS Try.prog 0 26 [a.v, b.v] .e 0 r /\ ∃ H k wr, r = .ret (.bool (a.same b)) H k wr := by
 obtain ⟨f1, f2, f3, f4⟩ := hf
 refine zBp mixed tbEt6 [] Try.func26 (c := bodyOf Try.f26) (by kernel_rfl) ?_
 unfold MsT.same
 refine ifK (fun g1 => ?_) (fun g1 => ?_)
 rotate_left
 ·rw [show (a.id == b.id) = false from g1]; exact ⟨_, _, _, rfl⟩
 rw [show (a.id == b.id) = true from g1]
 refine ifK (fun g2 => ?_) (fun g2 => ?_)
 rotate_left
 ·rw [show (a.fl == b.fl) = false from g2]; exact ⟨_, _, _, rfl⟩
 rw [show (a.fl == b.fl) = true from g2]
 refine eI (a.q, b.q) (aI ⟨rfl, by show a.q.length <= _; omega⟩ ?_)
 refine ifK (fun g3 => ?_) (fun g3 => ?_)
 rotate_left
 ·rw [show decide (a.q = b.q) = false from g3]; exact ⟨_, _, _, rfl⟩
 rw [show decide (a.q = b.q) = true from g3]
 refine eI (a.an, b.an) (aI ⟨rfl, by show a.an.length <= _; omega⟩ ?_)
 refine ifK (fun g4 => ?_) (fun g4 => ?_)
 rotate_left
 ·rw [show decide (a.an = b.an) = false from g4]; exact ⟨_, _, _, rfl⟩
 rw [show decide (a.an = b.an) = true from g4]
 refine eI (a.ns, b.ns) (aI ⟨rfl, by show a.ns.length <= _; omega⟩ ?_)
 refine ifK (fun g5 => ?_) (fun g5 => ?_)
 rotate_left
 ·rw [show decide (a.ns = b.ns) = false from g5]; exact ⟨_, _, _, rfl⟩
 rw [show decide (a.ns = b.ns) = true from g5]
 refine eI (a.ar, b.ar) (aI ⟨rfl, by show a.ar.length <= _; omega⟩ ?_)
 exact ⟨_, _, _, rfl⟩
theorem MsT.same_refl (a : MsT) : a.same a = true := by unfold MsT.same; simp
end
section
open Go Go.RowKit
noncomputable def ct_sameML : Ct Try.prog 0 := CtR.lend 26 (LtM × LtM) (fun x => [x.1.v, x.2.v]) (fun x H => x.1.at H /\ x.2.at H) (fun x => [x.1.m.v, x.2.m.v]) (fun x => x.1.m.fit 1000000) (fun x => .bool (x.1.m.same x.2.m))
 (fun x y H e h k => by simp only [aQ, and_true] at e; exact Prod.ext (LtM.uniq e.1 h.1 k.1) (LtM.uniq e.2 h.2 k.2)) (fun x H h => .cons _ _ _ _ (LtM.frz h.1) (.cons _ _ _ _ (LtM.frz h.2) .nil))
 (fun x hf => by obtain ⟨r, hF, H, k, wr, rfl⟩ := sameM_tr x.1.m x.2.m hf; exact ⟨_, _, _, _, hF, .one _ _ (.plain _ rfl)⟩)
end
end Go.Proofs.Ytcggcoijhdagnaa
