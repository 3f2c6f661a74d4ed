/- DERIVED. Texts put together: N1, D1, W2, W3, W4, W5, D2, D3, D4, D5, D5b, D6, N2, E1, E2, E3, E4P, D7, F1, F2, F3, F4P, F5, D8, D9, W6, N3, R1, R2. -/
import Derived.Test.YtmpaeabkdhjamaaZ12
import Derived.Test.YtmpaeabkdhjamaaZ13
import Derived.Test.YtmpaeabkdhjamaaZ16
/- DERIVED. What is known of names, as contracts. -/
namespace Go.Proofs.Ytmpaeabkdhjamaa
open Go Go.RowKit


/-- A string's bytes. -/
def bs (s : ByteArray) : Bs := s.data.toList
theorem str_bs (s : ByteArray) : str (bs s) = .string s := by simp [str, bs]
def shortB (s : ByteArray) : Bool := s.data.size.ble 1000000000
theorem short_len {s : ByteArray} (h : shortB s = true) : (bs s).length ≤ 1000000000 := by unfold bs; rw [Array.length_toList]; exact Nat.le_of_ble_eq_true h
/-- A string, not too long. -/
def gStr : List Value → Option Bool
  | [.string s] => some (shortB s)
  | _ => none
def argS (l : List Value) : ByteArray := match l with | .string s :: _ => s | _ => ⟨#[]⟩
theorem gStr_spec {l : List Value} (h : gStr l = some true) : ∃ s, l = [.string s] ∧ (bs s).length ≤ 1000000000 := by
  unfold gStr at h
  split at h
  · exact ⟨_, rfl, short_len (by simpa using h)⟩
  · cases h
/-- A function of a string. -/
def Ct.str1 (f : FuncId) (out : ByteArray → Value) (hp : ∀ s, plainV 8 (out s) = true) (ok : ∀ s w, (bs s).length ≤ 1000000000 → Calls Try.prog f #[.string s] w fun e w' => e = .returned (out s) ∧ Below w.heap.size w w') : Ct Try.prog 0 where
  f := f
  res l H n := match l with | [.string s] => bif shortB s then .ret (out s) H n [] else .bad "long" [] | _ => .bad "arguments" []
  ok l H n := by
    split
    · rename_i s
      cases hs : shortB s with
      | false => trivial
      | true => exact callOK_calls (fun w => ok s w (short_len hs)) rfl (hp s) H n
    · trivial
  ck l H n K := match l with | [.string s] => shortB s = true ∧ K (.ret (out s) H n []) | _ => False
  imp l H n K h := by
    split at h
    · obtain ⟨h1, h2⟩ := h
      simp only [h1, cond_true]; exact h2
    · exact h.elim
def Ct.str2 (f : FuncId) (out : ByteArray → ByteArray → Value) (hp : ∀ s t, plainV 8 (out s t) = true) (ok : ∀ s t w, (bs s).length ≤ 1000000000 → (bs t).length ≤ 1000000000 → Calls Try.prog f #[.string s, .string t] w fun e w' => e = .returned (out s t) ∧ Below w.heap.size w w') : Ct Try.prog 0 where
  f := f
  res l H n := match l with | [.string s, .string t] => bif shortB s && shortB t then .ret (out s t) H n [] else .bad "long" [] | _ => .bad "arguments" []
  ok l H n := by
    split
    · rename_i s t
      cases hs : (shortB s && shortB t) with
      | false => trivial
      | true =>
        simp only [Bool.and_eq_true] at hs
        exact callOK_calls (fun w => ok s t w (short_len hs.1) (short_len hs.2)) rfl (hp s t) H n
    · trivial
  ck l H n K := match l with | [.string s, .string t] => (shortB s && shortB t) = true ∧ K (.ret (out s t) H n []) | _ => False
  imp l H n K h := by
    split at h
    · obtain ⟨h1, h2⟩ := h
      simp only [h1, cond_true]; exact h2
    · exact h.elim

def sameNames (a b : Bs) : Bool := decide ((labels a).2 = 0 ∧ (labels b).2 = 0 ∧ lower a = lower b)

def ct_check : Ct Try.prog 0 := Ct.str1 32 (fun s => .int .i64 (labels (bs s)).2) (fun _ => rfl) (fun s w hs => by have := nameCheck_any (bs s) w hs; rwa [str_bs] at this)
def ct_lower : Ct Try.prog 0 := Ct.str1 63 (fun s => str (lower (bs s))) (fun _ => rfl) (fun s w hs => by have := lower_any (bs s) w hs; rwa [str_bs] at this)
theorem labels_plain (s : ByteArray) : plainL ((labels (bs s)).1.map str) = true := by simp [plainL, plainV, str]
def ct_labels : Ct Try.prog 0 := Ct.guard 59 gStr (fun l H n => listOut 9 1 ((labels (bs (argS l))).1.map str) (labels (bs (argS l))).1.length (fun v => .tuple #[v, .int .i64 (labels (bs (argS l))).2]) H n) (fun l H n h => by
  obtain ⟨s, rfl, hs⟩ := gStr_spec h
  refine callOK_list rfl (labels_plain s) (by kernel_rfl) (fun E v v' h => .tuple _ _ (.cons _ _ _ _ h (.cons _ _ _ _ (.int _ _) .nil))) (fun w => ?_) H n
  have := labels_any (bs s) w hs
  rw [str_bs] at this
  refine this.mono ?_
  rintro e w' ⟨v, h1, h2, h3, h4⟩
  exact ⟨v, h1, h2, h3, fun h => h4 (List.length_eq_zero_iff.1 h)⟩)
end Go.Proofs.Ytmpaeabkdhjamaa
/- DERIVED. Data: texts, names in front. -/
namespace Go.Proofs.Ytmpaeabkdhjamaa
open Go Go.RowKit

theorem bs_sub (s : ByteArray) (l h : Nat) : bs (subS s l h) = ((bs s).take h).drop l := by simp [bs, subS]
theorem bs_size (s : ByteArray) : s.data.size = (bs s).length := by simp [bs]
theorem bs_ext {s t : ByteArray} (h : bs s = bs t) : s = t := ByteArray.ext (Array.toList_inj.1 h)
theorem atS_get (s : ByteArray) (i : Nat) (h : i < (bs s).length) : atS s (i : Int) = (bs s)[i] := by
  unfold atS
  rw [Int.toNat_natCast, List.getD_eq_getElem?_getD]
  show ((bs s)[i]?).getD 0 = _
  rw [List.getElem?_eq_getElem h]; rfl
theorem wrapN {x : Int} (h1 : 0 ≤ x) (h2 : x < 9223372036854775808) : IntKind.i64.wrap x = x := wrap_i64 (by omega) h2
theorem byte_lt (c : UInt8) : c.toNat < 256 := UInt8.toNat_lt c

/-! ### texts -/
def txtF : Nat → Bs → Bool
  | 0, _ => false
  | _ + 1, [] => true
  | n + 1, c :: r => decide (c.toNat ≤ r.length) && txtF n (r.drop c.toNat)
theorem txtF_eq : ∀ (n m : Nat) (l : Bs), l.length < n → l.length < m → txtF n l = txtF m l
  | n + 1, m + 1, [], _, _ => rfl
  | n + 1, m + 1, c :: r, h1, h2 => by
    simp only [txtF]
    rw [txtF_eq n m (r.drop c.toNat) (by simp at h1 ⊢; omega) (by simp at h2 ⊢; omega)]
def txt (l : Bs) : Bool := txtF (l.length + 1) l
theorem txt_nil : txt [] = true := rfl
theorem txt_cons (c : UInt8) (r : Bs) : txt (c :: r) = (decide (c.toNat ≤ r.length) && txt (r.drop c.toNat)) := by
  unfold txt
  simp only [txtF, List.length_cons]
  rw [txtF_eq (r.length + 1) ((r.drop c.toNat).length + 1) _ (by simp; omega) (by omega)]
theorem txt_at (l : Bs) (i : Nat) (h : i < l.length) : txt (l.drop i) = (decide (i + 1 + l[i].toNat ≤ l.length) && txt (l.drop (i + 1 + l[i].toNat))) := by
  rw [List.drop_eq_getElem_cons h, txt_cons, List.drop_drop]
  congr 1
  rw [decide_eq_decide]; simp; omega
def texts (l : Bs) : Bool := !l.isEmpty && txt l

set_option maxRecDepth 100000 in
theorem texts_fn (s : ByteArray) (hs : (bs s).length ≤ 1000000000) : ∃ r, FnS Try.prog 0 81 [.string s] .e 0 r ∧ ∃ H m wr, r = .ret (.bool (texts (bs s))) H m wr := by
  refine fn_sx mixed (tbOf mixed []) [] Try.func81 (c := bodyOf Try.f81) (by kernel_rfl) ?_
  refine loop_go (fun i f => ⟨slots 6 [(0, .string s), (3, .int .i64 (i : Nat))] f, heap 0 [], 0, [], []⟩) (fun i => (bs s).length - i) (fun i => i ≤ (bs s).length ∧ txt (bs s) = txt ((bs s).drop i)) 0 ⟨Nat.zero_le _, rfl⟩
    (rc_slots [] rfl rfl rfl (fun l e => by cases e) List.nodup_nil (fun x hx => by cases hx) rfl rfl (fun k hk _ => hk) ⟨⟨_, rfl, .string _⟩, ⟨_, rfl, .int _ _⟩, trivial⟩ trivial .nil) ?_
  rintro i f ⟨hi, heq⟩
  refine sx_ok (tbOf mixed []) [] 0 _ none mixed _ _ _ ?_
  refine ifK (fun h1 => ?_) (fun h1 => ?_)
  · have h1 : i < (bs s).length := by have := of_decide_eq_true h1; rw [bs_size] at this; omega
    have hb := byte_lt (bs s)[i]
    have hat := atS_get s i h1
    have e1 : IntKind.i64.wrap ((i : Int) + IntKind.i64.wrap (1 + IntKind.i64.wrap ((atS s (i : Int)).toNat : Int))) = ((i + 1 + (bs s)[i].toNat : Nat) : Int) := by
      rw [hat, wrapN (x := (((bs s)[i]).toNat : Int)) (by omega) (by omega), wrapN (x := 1 + (((bs s)[i]).toNat : Int)) (by omega) (by omega), wrapN (by omega) (by omega)]; omega
    refine And.intro (by simp only [inI, bs_size]; simp; omega) ?_
    have hstep := txt_at (bs s) i h1
    refine ifK (fun h2 => ?_) (fun h2 => ?_)
    · have h2 := of_decide_eq_true h2
      rw [e1, bs_size] at h2
      have : texts (bs s) = false := by
        unfold texts; rw [heq, hstep, decide_eq_false (by omega)]; simp
      rw [this]; exact ⟨_, _, _, rfl⟩
    · have h2 := of_decide_eq_false h2
      rw [e1, bs_size] at h2
      refine ⟨i + 1 + (bs s)[i].toNat, ⟨by omega, ?_⟩, by omega, rc_slots [] rfl rfl rfl (fun l e => by cases e) List.nodup_nil (fun x hx => by cases hx) rfl rfl (fun k hk _ => hk) ⟨⟨_, rfl, .string _⟩, slot_int rfl e1, trivial⟩ trivial .nil⟩
      rw [heq, hstep, decide_eq_true (by omega), Bool.true_and]
  · have h1 : ¬ i < (bs s).length := by have := of_decide_eq_false h1; rw [bs_size] at this; omega
    have : texts (bs s) = !(s.data.toList == []) := by
      unfold texts
      rw [heq, List.drop_eq_nil_of_le (by omega), txt_nil, Bool.and_true]
      show (!(bs s).isEmpty) = !(bs s == [])
      cases bs s <;> rfl
    rw [this]; exact ⟨_, _, _, rfl⟩
end Go.Proofs.Ytmpaeabkdhjamaa
/- DERIVED. Names in messages: what reading one tells. -/
namespace Go.Proofs.Ytmpaeabkdhjamaa
open Go Go.RowKit
/-- What is told: a name and the place behind it; or a fault. -/
structure RR where
  s : Bl
  next : Int
  e : Int
  pos : Int
def rrV (r : RR) : Value := .tuple #[str r.s, .int .i64 r.next, .agg #[.int .i64 r.e, .int .i64 r.pos]]
theorem rrV_plain (r : RR) : plainV 8 (rrV r) = true := rfl
def cB (B : Bl) (i : Nat) : Nat := (B.getD i 0).toNat
def toB (B : Bl) (i : Nat) : Nat := 256 * (cB B i - 192) + cB B (i + 1)
inductive Rd (B : Bl) (a : Nat) : Nat → Nat → Bl → Int → RR → Prop
  | over {p i : Nat} {out : Bl} {bh : Int} (h : B.length ≤ i) : Rd B a p i out bh ⟨[], 0, 4, B.length⟩
  | zero {p i : Nat} {out : Bl} {bh : Int} (h : i < B.length) (hc : cB B i = 0) : Rd B a p i out bh ⟨out ++ [0], if bh < 0 then (i : Int) + 1 else bh, 0, 0⟩
  | pshort {p i : Nat} {out : Bl} {bh : Int} (h : i < B.length) (hc : 192 ≤ cB B i) (h2 : B.length < i + 2) : Rd B a p i out bh ⟨[], 0, 4, B.length⟩
  | ploop {p i : Nat} {out : Bl} {bh : Int} (h : i < B.length) (hc : 192 ≤ cB B i) (h2 : i + 2 ≤ B.length) (h3 : p ≤ toB B i) : Rd B a p i out bh ⟨[], 0, 150, i⟩
  | ptr {p i : Nat} {out : Bl} {bh : Int} {r : RR} (h : i < B.length) (hc : 192 ≤ cB B i) (h2 : i + 2 ≤ B.length) (h3 : toB B i < p) (hr : Rd B a (toB B i) (toB B i) out (if bh < 0 then (i : Int) + 2 else bh) r) : Rd B a p i out bh r
  | bad {p i : Nat} {out : Bl} {bh : Int} (h : i < B.length) (hc : 63 < cB B i) (hc2 : cB B i < 192) : Rd B a p i out bh ⟨[], 0, 4, i⟩
  | short {p i : Nat} {out : Bl} {bh : Int} (h : i < B.length) (hc : 0 < cB B i) (hc2 : cB B i ≤ 63) (h2 : B.length < i + (cB B i + 1)) : Rd B a p i out bh ⟨[], 0, 4, B.length⟩
  | long {p i : Nat} {out : Bl} {bh : Int} (h : i < B.length) (hc : 0 < cB B i) (hc2 : cB B i ≤ 63) (h2 : i + (cB B i + 1) ≤ B.length) (h3 : 254 < out.length + (cB B i + 1)) : Rd B a p i out bh ⟨[], 0, 3, a⟩
  | lab {p i : Nat} {out : Bl} {bh : Int} {r : RR} (h : i < B.length) (hc : 0 < cB B i) (hc2 : cB B i ≤ 63) (h2 : i + (cB B i + 1) ≤ B.length) (h3 : out.length + (cB B i + 1) ≤ 254) (hr : Rd B a p (i + (cB B i + 1)) (out ++ (B.drop i).take (cB B i + 1)) bh r) : Rd B a p i out bh r
theorem Rd.det {B : Bl} {a : Nat} {p i : Nat} {out : Bl} {bh : Int} {r r' : RR} (h : Rd B a p i out bh r) (k : Rd B a p i out bh r') : r = r' := by
  induction h generalizing r' with
  | ptr h hc h2 h3 hr ih => cases k <;> first | exact ih (by assumption) | (exfalso; omega)
  | lab h hc hc2 h2 h3 hr ih => cases k <;> first | exact ih (by assumption) | (exfalso; omega)
  | _ => cases k <;> first | rfl | (exfalso; omega)
/-- What Read tells. -/
def rdOk (B : Bl) (x : Int) (r : RR) : Prop := (x < 0 ∨ (B.length : Int) < x) ∧ r = ⟨[], 0, 5, 0⟩ ∨ ∃ a : Nat, x = (a : Int) ∧ a ≤ B.length ∧ Rd B a a a [] (-1) r
theorem rdOk_det {B : Bl} {x : Int} {r r' : RR} (h : rdOk B x r) (k : rdOk B x r') : r = r' := by
  rcases h with ⟨h1, rfl⟩ | ⟨a, rfl, h2, h3⟩ <;> rcases k with ⟨k1, rfl⟩ | ⟨b, k0, k2, k3⟩
  · rfl
  · omega
  · omega
  · have : a = b := by omega
    subst this
    exact h3.det k3
theorem cB_lt (B : Bl) (i : Nat) : cB B i < 256 := UInt8.toNat_lt _
theorem and_low (N : Nat) (h : N < 65536) : bitsI .and .i64 (N : Int) 16383 = ((N % 16384 : Nat) : Int) := by
  unfold bitsI
  simp only []
  have e : (BitVec.ofInt IntKind.i64.bits (N : Int) &&& BitVec.ofInt IntKind.i64.bits 16383).toNat = N % 16384 := by
    rw [BitVec.toNat_and, bvN _ (by omega), show (BitVec.ofInt IntKind.i64.bits 16383).toNat = 2 ^ 14 - 1 from rfl, Nat.and_two_pow_sub_one_eq_mod]
  rw [e, wrapM (by omega) (by omega)]
theorem two_eq (B : Bl) (i : Nat) (h : i + 2 ≤ B.length) (hc : 192 ≤ cB B i) : bitsI .and .i64 (beN ((B.drop i).take 2) : Int) 16383 = (toB B i : Int) := by
  have e : (B.drop i).take 2 = [B.getD i 0, B.getD (i + 1) 0] := by
    have g1 : B.getD i 0 = B[i]'(by omega) := by simp [List.getD_eq_getElem?_getD, List.getElem?_eq_getElem (show i < B.length by omega)]
    have g2 : B.getD (i + 1) 0 = B[i + 1]'(by omega) := by simp [List.getD_eq_getElem?_getD, List.getElem?_eq_getElem (show i + 1 < B.length by omega)]
    rw [g1, g2, List.drop_eq_getElem_cons (show i < B.length by omega), List.take_succ_cons, List.drop_eq_getElem_cons (show i + 1 < B.length by omega), List.take_succ_cons, List.take_zero]
  have h1 := cB_lt B i
  have h2 := cB_lt B (i + 1)
  have e2 : beN [B.getD i 0, B.getD (i + 1) 0] = 256 * cB B i + cB B (i + 1) := by
    show (0 * 256 + cB B i) * 256 + cB B (i + 1) = _; omega
  rw [e, e2, and_low _ (by omega)]
  unfold toB
  congr 1; omega
def wrS (o n c : Nat) (l : Bl) (a : Nat) (x : Nat × Nat × Bl × Int) (f : Nat → Option Value) : Fs :=
  match x with
  | (p, i, out, bh) =>
    match out with
    | [] => ⟨slots 7 [(0, .slice (some ⟨0, o, none⟩) n c), (1, .int .i64 a), (6, .pointer (some ⟨1, 0, none⟩)), (7, .slice none 0 0), (8, .int .i64 p), (9, .int .i64 i), (10, .int .i64 bh)] f,
        heap 2 [(0, .win (l.map byV) 1), (1, .cells [.int .i64 0, .int .i64 0] 55)], 2, [], []⟩
    | u :: us => ⟨slots 7 [(0, .slice (some ⟨0, o, none⟩) n c), (1, .int .i64 a), (6, .pointer (some ⟨1, 0, none⟩)), (7, .slice (some ⟨2, 0, none⟩) (us.length + 1) U), (8, .int .i64 p), (9, .int .i64 i), (10, .int .i64 bh)] f,
        heap 3 [(0, .win (l.map byV) 1), (1, .cells [.int .i64 0, .int .i64 0] 55), (2, .cells ((u :: us).map byV) 5)], 3, [], []⟩
def muR (n : Nat) (x : Nat × Nat × Bl × Int) : Nat := x.1 * (n + 2) + (n + 1 - x.2.1)
end Go.Proofs.Ytmpaeabkdhjamaa
/- DERIVED. Names in messages: Read, walked. -/
namespace Go.Proofs.Ytmpaeabkdhjamaa
open Go Go.RowKit
theorem lenB {l : Bl} {o n : Nat} (h : o + n ≤ l.length) : ((l.drop o).take n).length = n := by rw [List.length_take, List.length_drop]; omega
theorem cellB {l : Bl} {o n i : Nat} (h : o + n ≤ l.length) (hi : i < n) : (l.map byV)[o + i * 1]? = some (.int .u8 (cB ((l.drop o).take n) i : Int)) := by
  have h1 : o + i < l.length := by omega
  have e : ((l.drop o).take n).getD i 0 = l[o + i] := by
    rw [List.getD_eq_getElem?_getD, List.getElem?_take_of_lt hi, List.getElem?_drop, List.getElem?_eq_getElem h1]; rfl
  unfold cB
  rw [e, Nat.mul_one]
  simp [List.getElem?_eq_getElem h1, byV]
theorem takeB {l : Bl} {o n i k : Nat} (hi : i + k ≤ n) : (l.drop (o + i)).take k = ((((l.drop o).take n)).drop i).take k := by
  rw [List.drop_take, List.take_take, List.drop_drop, Nat.min_eq_left (by omega)]
noncomputable def tbW3 : Tb Try.prog 0 := tbOf mixed [ct_bytes, ct_get16]
def wrP (B : Bl) (x : Int) (r : Res) : Prop := ∃ res, rdOk B x res ∧ ∃ H m wr, r = .ret (rrV res) H m wr ∧ ∀ k ∈ wr, 1 ≤ k
set_option maxRecDepth 1000000 in
set_option maxHeartbeats 4000000 in
theorem read_loop (l : Bl) (o n c a : Nat) (h : o + n ≤ l.length) (hn : n ≤ 1000000000) (hcap : c = U ∨ n ≤ c ∧ c ≤ 9223372036854775807) (ha : a ≤ n) {s0 : Fs} {K : Ex → Fs → Prop}
    (h0 : ∃ f, RcM Try.prog 0 1 (2 + (Try.f71.ntmps - 2)) none s0 (wrS o n c l a (a, a, [], -1) f))
    (hret : ∀ e pos f, Rd ((l.drop o).take n) a a a [] (-1) ⟨[], 0, e, pos⟩ → K .ret ⟨slots 7 [(4, .string ⟨#[]⟩), (5, .int .i64 0), (6, .pointer (some ⟨1, 0, none⟩))] f, heap 2 [(1, .cells [.int .i64 e, .int .i64 pos] 55)], 2, [], []⟩)
    (hex0 : ∀ bh f, Rd ((l.drop o).take n) a a a [] (-1) ⟨[0], bh, 0, 0⟩ → K (.exit 0) ⟨slots 7 [(6, .pointer (some ⟨1, 0, none⟩)), (7, .slice none 0 0), (10, .int .i64 bh)] f, heap 2 [(1, .cells [.int .i64 0, .int .i64 0] 55)], 2, [], []⟩)
    (hex1 : ∀ u us bh f, (u :: us).length ≤ 254 → Rd ((l.drop o).take n) a a a [] (-1) ⟨(u :: us) ++ [0], bh, 0, 0⟩ → K (.exit 0) ⟨slots 7 [(6, .pointer (some ⟨1, 0, none⟩)), (7, .slice (some ⟨2, 0, none⟩) (us.length + 1) U), (10, .int .i64 bh)] f, heap 3 [(1, .cells [.int .i64 0, .int .i64 0] 55), (2, .cells ((u :: us).map byV) 5)], 3, [], []⟩) :
    LW Try.prog 0 1 (2 + (Try.f71.ntmps - 2)) none (loopAt Try.f71 0) s0 K := by
  obtain ⟨B, hB⟩ : ∃ B, B = (l.drop o).take n := ⟨_, rfl⟩
  have hlB : B.length = n := by rw [hB]; exact lenB h
  have hcell : ∀ i, i < n → (l.map byV)[o + i * 1]? = some (.int .u8 (cB B i : Int)) := fun i hi => by rw [hB]; exact cellB h hi
  have htake : ∀ i k, i + k ≤ n → (l.drop (o + i)).take k = (B.drop i).take k := fun i k hik => by rw [hB]; exact takeB hik
  rw [← hB] at hret hex0 hex1
  refine loop_goX (wrS o n c l a) (muR n) (fun x => x.1 ≤ n ∧ x.2.1 ≤ n ∧ x.2.2.1.length ≤ 254 ∧ (-1 ≤ x.2.2.2 ∧ x.2.2.2 ≤ n) ∧ ∀ r, Rd B a x.1 x.2.1 x.2.2.1 x.2.2.2 r → Rd B a a a [] (-1) r) (a, a, [], -1) ⟨ha, ha, by simp, ⟨by simp, by show (-1 : Int) ≤ n; omega⟩, fun r hr => hr⟩ h0 ?_
  rintro ⟨p, i, out, bh⟩ f ⟨hp, hi, hout, ⟨hb1, hb2⟩, hinv⟩
  have hp : p ≤ n := hp
  have hi : i ≤ n := hi
  have hout : out.length ≤ 254 := hout
  have hb1 : -1 ≤ bh := hb1
  have hb2 : bh ≤ n := hb2
  have hinv : ∀ r, Rd B a p i out bh r → Rd B a a a [] (-1) r := hinv
  have hb := cB_lt B i
  have hsz0 : (Try.prog.types[55]).size = 2 := by kernel_rfl
  have h1s : (Try.prog.types[5]).size = 1 := by kernel_rfl
  have hby : (Try.prog.types[5]).bytes = 1 := by kernel_rfl
  have hsz : 0 + (Try.prog.types[55]).size ≤ 2 := by rw [hsz0]; decide
  cases out with
  | nil =>
    refine sx_ok tbW3 [0, 2] 1 _ none mixed _ _ _ ?_
    refine ifK (fun h1 => ?_) (fun h1 => ?_)
    · have h1 : n ≤ i := by have := of_decide_eq_true h1; omega
      refine And.intro rfl (rc_end (rc_slots [1] rfl rfl rfl (fun l e => by cases e) (by decide) (by decide) rfl rfl (wr_of rfl) (d := 7) (d2 := 2) (lv := [(4, .string ⟨#[]⟩), (5, .int .i64 0), (6, .pointer (some ⟨1, 0, none⟩))]) (bs := [(1, .cells [.int .i64 (4), .int .i64 ((n : Int))] 55)]) (W := []) (m := 2) (df := []) ⟨⟨_, rfl, .string _⟩, ⟨_, rfl, .int _ _⟩, ⟨_, rfl, .ptr _ _ _ rfl⟩, trivial⟩ ⟨⟨by decide, _, rfl, .same rfl⟩, trivial⟩ .nil) (fun f => hret (4) ((n : Int)) f (hinv _ ?_)))
      rw [← hlB]; exact .over (by omega)
    have h1 : i < n := by have := of_decide_eq_false h1; omega
    refine ifK (fun _ => ?_) (fun h2 => absurd h2 (by simp [inI]; omega))
    refine Exists.intro (cB B i : Int) (And.intro (by rw [Int.toNat_natCast]; exact hcell i h1) ?_)
    have ec : IntKind.i64.wrap (cB B i : Int) = (cB B i : Int) := wrapM (by omega) (by omega)
    refine ifK (fun h2 => ?_) (fun h2 => ?_)
    · have h2 : cB B i = 0 := by rw [ec] at h2; have h9 : (cB B i : Int) = 0 := (by simpa using h2); omega
      have hz := hinv _ (Rd.zero (B := B) (a := a) (p := p) (i := i) (out := []) (bh := bh) (by omega) h2)
      refine ifK (fun h3 => ?_) (fun h3 => ?_)
      · have h3 : bh < 0 := of_decide_eq_true h3
        rw [if_pos h3] at hz
        rw [show (i : Int) + 1 = IntKind.i64.wrap ((i : Int) + 1) by rw [wrapM (by omega) (by omega)]] at hz
        exact And.intro rfl (rc_end (rc_slots [1] rfl rfl rfl (fun l e => by cases e) (by decide) (by decide) rfl rfl (wr_of rfl) (d := 7) (d2 := 2) (lv := [(6, .pointer (some ⟨1, 0, none⟩)), (7, .slice none 0 0), (10, .int .i64 (IntKind.i64.wrap ((i : Int) + 1)))]) (bs := [(1, .cells [.int .i64 0, .int .i64 0] 55)]) (W := []) (m := 2) (df := []) ⟨⟨_, rfl, .ptr _ _ _ rfl⟩, ⟨_, rfl, plain_rv 8 rfl⟩, ⟨_, rfl, .int _ _⟩, trivial⟩ ⟨⟨by decide, _, rfl, .same rfl⟩, trivial⟩ .nil) (fun f => hex0 _ f hz))
      · have h3 : ¬ bh < 0 := of_decide_eq_false h3
        rw [if_neg h3] at hz
        exact And.intro rfl (rc_end (rc_slots [1] rfl rfl rfl (fun l e => by cases e) (by decide) (by decide) rfl rfl (wr_of rfl) (d := 7) (d2 := 2) (lv := [(6, .pointer (some ⟨1, 0, none⟩)), (7, .slice none 0 0), (10, .int .i64 (bh))]) (bs := [(1, .cells [.int .i64 0, .int .i64 0] 55)]) (W := []) (m := 2) (df := []) ⟨⟨_, rfl, .ptr _ _ _ rfl⟩, ⟨_, rfl, plain_rv 8 rfl⟩, ⟨_, rfl, .int _ _⟩, trivial⟩ ⟨⟨by decide, _, rfl, .same rfl⟩, trivial⟩ .nil) (fun f => hex0 _ f hz))
    have h2 : 0 < cB B i := by rw [ec] at h2; have h9 : (cB B i : Int) ≠ 0 := (by simpa using h2); omega
    refine ifK (fun h3 => ?_) (fun h3 => ?_)
    · have h3 : 192 ≤ cB B i := by rw [ec] at h3; have := of_decide_eq_true h3; omega
      refine Exists.intro (⟨0, o, n, c, l⟩, (i : Int)) (And.intro ⟨rfl, ⟨rfl, h⟩, hn⟩ ?_)
      refine ifK (fun h4 => absurd h4 (by simp; omega)) (fun _ => ?_)
      refine ifK (fun h4 => ?_) (fun h4 => ?_)
      · have h4 : i + 2 ≤ n := Nat.le_of_ble_eq_true (show Nat.ble (i + 2) n = true from h4)
        refine Exists.intro (0 : Int) (And.intro rfl ?_)
        have et : bitsI .and .i64 (beN ((l.drop (o + ((i : Nat) : Int).toNat)).take 2) : Int) 16383 = (toB B i : Int) := by rw [Int.toNat_natCast, htake i 2 h4, two_eq B i (by omega) h3]
        refine ifK (fun h5 => ?_) (fun h5 => ?_)
        · have h5 : p ≤ toB B i := by have := of_decide_eq_true h5; rw [et] at this; omega
          refine And.intro rfl (rc_end (rc_slots [1] rfl rfl rfl (fun l e => by cases e) (by decide) (by decide) rfl rfl (wr_of rfl) (d := 7) (d2 := 2) (lv := [(4, .string ⟨#[]⟩), (5, .int .i64 0), (6, .pointer (some ⟨1, 0, none⟩))]) (bs := [(1, .cells [.int .i64 (150), .int .i64 ((i : Int))] 55)]) (W := []) (m := 2) (df := []) ⟨⟨_, rfl, .string _⟩, ⟨_, rfl, .int _ _⟩, ⟨_, rfl, .ptr _ _ _ rfl⟩, trivial⟩ ⟨⟨by decide, _, rfl, .same rfl⟩, trivial⟩ .nil) (fun f => hret (150) ((i : Int)) f (hinv _ ?_)))
          exact .ploop (by omega) h3 (by omega) h5
        · have h5 : toB B i < p := by have := of_decide_eq_false h5; rw [et] at this; omega
          have hst : ∀ r, Rd B a (toB B i) (toB B i) [] (if bh < 0 then (i : Int) + 2 else bh) r → Rd B a a a [] (-1) r := fun r hr => hinv r (.ptr (by omega) h3 (by omega) h5 hr)
          have hmu : (toB B i) * (n + 2) + (n + 1 - toB B i) < p * (n + 2) + (n + 1 - i) := by
            have := Nat.mul_le_mul_right (n + 2) (show toB B i + 1 ≤ p from h5)
            rw [Nat.add_mul, Nat.one_mul] at this; omega
          refine ifK (fun h6 => ?_) (fun h6 => ?_)
          · have h6 : bh < 0 := of_decide_eq_true h6
            simp only [if_pos h6] at hst
            refine ⟨(toB B i, toB B i, [], ((i + 2 : Nat) : Int)), ⟨by show toB B i ≤ n; omega, by show toB B i ≤ n; omega, hout, ⟨by show -1 ≤ ((i + 2 : Nat) : Int); omega, by show ((i + 2 : Nat) : Int) ≤ _; omega⟩, fun r hr => hst r (by have e : ((i + 2 : Nat) : Int) = (i : Int) + 2 := (by omega); rw [← e]; exact hr)⟩, hmu, ?_⟩
            exact rc_slots [1] rfl rfl rfl (fun l e => by cases e) (by decide) (by decide) rfl rfl (wr_of rfl) ⟨⟨_, rfl, .sl _ _ _ _ _ rfl⟩, ⟨_, rfl, .int _ _⟩, ⟨_, rfl, .ptr _ _ _ rfl⟩, ⟨_, rfl, plain_rv 8 rfl⟩, ⟨_, rfl, by rw [← et]; exact .int _ _⟩, ⟨_, rfl, by rw [← et]; exact .int _ _⟩, ⟨_, rfl, .int _ _⟩, trivial⟩ ⟨⟨by decide, _, rfl, (by first | exact .same (byV_plain _) | exact .sameW (byV_plain _))⟩, ⟨by decide, _, rfl, .same rfl⟩, trivial⟩ .nil
          · have h6 : ¬ bh < 0 := of_decide_eq_false h6
            simp only [if_neg h6] at hst
            refine ⟨(toB B i, toB B i, [], bh), ⟨by show toB B i ≤ n; omega, by show toB B i ≤ n; omega, hout, ⟨by show -1 ≤ bh; omega, by show bh ≤ _; omega⟩, fun r hr => hst r hr⟩, hmu, ?_⟩
            exact rc_slots [1] rfl rfl rfl (fun l e => by cases e) (by decide) (by decide) rfl rfl (wr_of rfl) ⟨⟨_, rfl, .sl _ _ _ _ _ rfl⟩, ⟨_, rfl, .int _ _⟩, ⟨_, rfl, .ptr _ _ _ rfl⟩, ⟨_, rfl, plain_rv 8 rfl⟩, ⟨_, rfl, by rw [← et]; exact .int _ _⟩, ⟨_, rfl, by rw [← et]; exact .int _ _⟩, ⟨_, rfl, .int _ _⟩, trivial⟩ ⟨⟨by decide, _, rfl, (by first | exact .same (byV_plain _) | exact .sameW (byV_plain _))⟩, ⟨by decide, _, rfl, .same rfl⟩, trivial⟩ .nil
      · have h4 : n < i + 2 := by have h9 : ¬ i + 2 ≤ n := fun e => (by have h8 := Nat.ble_eq_true_of_le e; have h4 : Nat.ble (i + 2) n = false := h4; rw [h8] at h4; cases h4); omega
        refine Exists.intro (4 : Int) (And.intro rfl ?_)
        refine And.intro ?_ ?_
        · kernel_rfl
        refine Exists.intro (4 : Int) (Exists.intro (n : Int) (And.intro ⟨hsz, rfl⟩ ?_))
        refine And.intro rfl (rc_end (rc_slots [1] rfl rfl rfl (fun l e => by cases e) (by decide) (by decide) rfl rfl (wr_of rfl) (d := 7) (d2 := 2) (lv := [(4, .string ⟨#[]⟩), (5, .int .i64 0), (6, .pointer (some ⟨1, 0, none⟩))]) (bs := [(1, .cells [.int .i64 (4), .int .i64 ((n : Int))] 55)]) (W := []) (m := 2) (df := []) ⟨⟨_, rfl, .string _⟩, ⟨_, rfl, .int _ _⟩, ⟨_, rfl, .ptr _ _ _ rfl⟩, trivial⟩ ⟨⟨by decide, _, rfl, .same rfl⟩, trivial⟩ .nil) (fun f => hret (4) ((n : Int)) f (hinv _ ?_)))
        rw [← hlB]; exact .pshort (by omega) h3 (by omega)
    have h3 : cB B i < 192 := by rw [ec] at h3; have := of_decide_eq_false h3; omega
    refine ifK (fun h4 => ?_) (fun h4 => ?_)
    · have h4 : 63 < cB B i := by rw [ec] at h4; have := of_decide_eq_true h4; omega
      refine And.intro rfl (rc_end (rc_slots [1] rfl rfl rfl (fun l e => by cases e) (by decide) (by decide) rfl rfl (wr_of rfl) (d := 7) (d2 := 2) (lv := [(4, .string ⟨#[]⟩), (5, .int .i64 0), (6, .pointer (some ⟨1, 0, none⟩))]) (bs := [(1, .cells [.int .i64 (4), .int .i64 ((i : Int))] 55)]) (W := []) (m := 2) (df := []) ⟨⟨_, rfl, .string _⟩, ⟨_, rfl, .int _ _⟩, ⟨_, rfl, .ptr _ _ _ rfl⟩, trivial⟩ ⟨⟨by decide, _, rfl, .same rfl⟩, trivial⟩ .nil) (fun f => hret (4) ((i : Int)) f (hinv _ ?_)))
      exact .bad (by omega) h4 h3
    have h4 : cB B i ≤ 63 := by rw [ec] at h4; have := of_decide_eq_false h4; omega
    have ez : IntKind.i64.wrap (IntKind.i64.wrap (cB B i : Int) + 1) = ((cB B i + 1 : Nat) : Int) := by rw [ec, wrapM (by omega) (by omega)]; omega
    refine Exists.intro (⟨0, o, n, c, l⟩, ((i : Int), ((cB B i + 1 : Nat) : Int))) (And.intro ⟨by rw [ez]; rfl, ⟨rfl, h⟩, hn, hcap⟩ ?_)
    refine ifK (fun h5 => absurd h5 (by simp; omega)) (fun _ => ?_)
    refine ifK (fun h5 => ?_) (fun h5 => ?_)
    · have h5 : n < i + (cB B i + 1) := by have h5 : (n : Int) - (i : Int) < ((cB B i + 1 : Nat) : Int) := (of_decide_eq_true h5); omega
      refine Exists.intro (4 : Int) (And.intro rfl ?_)
      refine And.intro ?_ ?_
      · kernel_rfl
      refine Exists.intro (4 : Int) (Exists.intro (n : Int) (And.intro ⟨hsz, rfl⟩ ?_))
      refine And.intro rfl (rc_end (rc_slots [1] rfl rfl rfl (fun l e => by cases e) (by decide) (by decide) rfl rfl (wr_of rfl) (d := 7) (d2 := 2) (lv := [(4, .string ⟨#[]⟩), (5, .int .i64 0), (6, .pointer (some ⟨1, 0, none⟩))]) (bs := [(1, .cells [.int .i64 (4), .int .i64 ((n : Int))] 55)]) (W := []) (m := 2) (df := []) ⟨⟨_, rfl, .string _⟩, ⟨_, rfl, .int _ _⟩, ⟨_, rfl, .ptr _ _ _ rfl⟩, trivial⟩ ⟨⟨by decide, _, rfl, .same rfl⟩, trivial⟩ .nil) (fun f => hret (4) ((n : Int)) f (hinv _ ?_)))
      rw [← hlB]; exact .short (by omega) h2 h4 (by omega)
    have h5 : i + (cB B i + 1) ≤ n := by have h5 : ¬ (n : Int) - (i : Int) < ((cB B i + 1 : Nat) : Int) := (of_decide_eq_false h5); omega
    have hst : ∀ r, Rd B a p (i + (cB B i + 1)) ([] ++ (B.drop i).take (cB B i + 1)) bh r → [].length + (cB B i + 1) ≤ 254 → Rd B a a a [] (-1) r := fun r hr hl => hinv r (.lab (by omega) h2 h4 (by omega) hl hr)
    have htl : ((B.drop i).take (cB B i + 1)).length = cB B i + 1 := by rw [List.length_take, List.length_drop]; omega
    have hsrc : ∀ G : Gh, G 2 = some (.cells (((l.drop (o + i)).take (cB B i + 1)).map byV) 5) → srcCells G 1 (.slice (some ⟨2, 0, none⟩) (cB B i + 1) U) = some (cB B i + 1, ((B.drop i).take (cB B i + 1)).map byV) := fun G hG => by
      unfold srcCells
      simp only [hG, Option.bind_some, AObj.look, show (cB B i + 1).beq 0 = false from rfl, cond_false]
      rw [htake i _ h5, Nat.ble_eq_true_of_le (by rw [List.length_map, htl]; omega)]
      simp only [cond_true, List.drop_zero, Nat.mul_one]
      rw [List.take_of_length_le (by rw [List.length_map, htl]; omega)]
    refine Exists.intro (((B.drop i).take (cB B i + 1)).map byV) (And.intro (by rw [h1s]; exact hsrc _ rfl) ?_)
    refine And.intro (by rw [Int.toNat_natCast, hby]; simp; omega) ?_
    refine ifK (fun h6 => absurd (of_decide_eq_true h6) (by rw [Int.toNat_natCast]; omega)) (fun _ => ?_)
    obtain ⟨u, us, hu⟩ : ∃ u us, (B.drop i).take (cB B i + 1) = u :: us := by
      cases hq : (B.drop i).take (cB B i + 1) with
      | nil => rw [hq] at htl; cases htl
      | cons u us => exact ⟨u, us, rfl⟩
    have hul : us.length + 1 = cB B i + 1 := by rw [← htl, hu]; rfl
    refine ⟨(p, i + (cB B i + 1), u :: us, bh), ⟨hp, h5, by show us.length + 1 ≤ 254; omega, ⟨hb1, hb2⟩, fun r hr => hst r (by rw [hu]; exact hr) (by simp; omega)⟩, ?_, ?_⟩
    · show p * (n + 2) + (n + 1 - (i + (cB B i + 1))) < p * (n + 2) + (n + 1 - i); omega
    · exact rc_slots [1, 4] rfl rfl rfl (fun l e => by cases e) (by decide) (by decide) rfl rfl (wr_of rfl) ⟨⟨_, rfl, .sl _ _ _ _ _ rfl⟩, ⟨_, rfl, .int _ _⟩, ⟨_, rfl, .ptr _ _ _ rfl⟩, ⟨_, rfl, by rw [hul]; exact .sl _ _ _ _ _ rfl⟩, ⟨_, rfl, .int _ _⟩, ⟨_, rfl, by rw [show ((i + (cB B i + 1) : Nat) : Int) = (i : Int) + ((cB B i + 1 : Nat) : Int) by omega]; exact .int _ _⟩, ⟨_, rfl, .int _ _⟩, trivial⟩ ⟨⟨by decide, _, rfl, (by first | exact .same (byV_plain _) | exact .sameW (byV_plain _))⟩, ⟨by decide, _, rfl, .same rfl⟩, ⟨by decide, _, rfl, ro_eq (by rw [hu]) (byV_plain _)⟩, trivial⟩ .nil
  | cons u us =>
    refine sx_ok tbW3 [0, 3] 1 _ none mixed _ _ _ ?_
    refine ifK (fun h1 => ?_) (fun h1 => ?_)
    · have h1 : n ≤ i := by have := of_decide_eq_true h1; omega
      refine And.intro rfl (rc_end (rc_slots [1] rfl rfl rfl (fun l e => by cases e) (by decide) (by decide) rfl rfl (wr_of rfl) (d := 7) (d2 := 2) (lv := [(4, .string ⟨#[]⟩), (5, .int .i64 0), (6, .pointer (some ⟨1, 0, none⟩))]) (bs := [(1, .cells [.int .i64 (4), .int .i64 ((n : Int))] 55)]) (W := []) (m := 2) (df := []) ⟨⟨_, rfl, .string _⟩, ⟨_, rfl, .int _ _⟩, ⟨_, rfl, .ptr _ _ _ rfl⟩, trivial⟩ ⟨⟨by decide, _, rfl, .same rfl⟩, trivial⟩ .nil) (fun f => hret (4) ((n : Int)) f (hinv _ ?_)))
      rw [← hlB]; exact .over (by omega)
    have h1 : i < n := by have := of_decide_eq_false h1; omega
    refine ifK (fun _ => ?_) (fun h2 => absurd h2 (by simp [inI]; omega))
    refine Exists.intro (cB B i : Int) (And.intro (by rw [Int.toNat_natCast]; exact hcell i h1) ?_)
    have ec : IntKind.i64.wrap (cB B i : Int) = (cB B i : Int) := wrapM (by omega) (by omega)
    refine ifK (fun h2 => ?_) (fun h2 => ?_)
    · have h2 : cB B i = 0 := by rw [ec] at h2; have h9 : (cB B i : Int) = 0 := (by simpa using h2); omega
      have hz := hinv _ (Rd.zero (B := B) (a := a) (p := p) (i := i) (out := (u :: us)) (bh := bh) (by omega) h2)
      refine ifK (fun h3 => ?_) (fun h3 => ?_)
      · have h3 : bh < 0 := of_decide_eq_true h3
        rw [if_pos h3] at hz
        rw [show (i : Int) + 1 = IntKind.i64.wrap ((i : Int) + 1) by rw [wrapM (by omega) (by omega)]] at hz
        exact And.intro rfl (rc_end (rc_slots [1, 2] rfl rfl rfl (fun l e => by cases e) (by decide) (by decide) rfl rfl (wr_of rfl) (d := 7) (d2 := 3) (lv := [(6, .pointer (some ⟨1, 0, none⟩)), (7, .slice (some ⟨2, 0, none⟩) (us.length + 1) U), (10, .int .i64 (IntKind.i64.wrap ((i : Int) + 1)))]) (bs := [(1, .cells [.int .i64 0, .int .i64 0] 55), (2, .cells ((u :: us).map byV) 5)]) (W := []) (m := 3) (df := []) ⟨⟨_, rfl, .ptr _ _ _ rfl⟩, ⟨_, rfl, .sl _ _ _ _ _ rfl⟩, ⟨_, rfl, .int _ _⟩, trivial⟩ ⟨⟨by decide, _, rfl, .same rfl⟩, ⟨by decide, _, rfl, (by first | exact .same (byV_plain _) | exact .sameW (byV_plain _))⟩, trivial⟩ .nil) (fun f => hex1 _ _ _ f hout hz))
      · have h3 : ¬ bh < 0 := of_decide_eq_false h3
        rw [if_neg h3] at hz
        exact And.intro rfl (rc_end (rc_slots [1, 2] rfl rfl rfl (fun l e => by cases e) (by decide) (by decide) rfl rfl (wr_of rfl) (d := 7) (d2 := 3) (lv := [(6, .pointer (some ⟨1, 0, none⟩)), (7, .slice (some ⟨2, 0, none⟩) (us.length + 1) U), (10, .int .i64 (bh))]) (bs := [(1, .cells [.int .i64 0, .int .i64 0] 55), (2, .cells ((u :: us).map byV) 5)]) (W := []) (m := 3) (df := []) ⟨⟨_, rfl, .ptr _ _ _ rfl⟩, ⟨_, rfl, .sl _ _ _ _ _ rfl⟩, ⟨_, rfl, .int _ _⟩, trivial⟩ ⟨⟨by decide, _, rfl, .same rfl⟩, ⟨by decide, _, rfl, (by first | exact .same (byV_plain _) | exact .sameW (byV_plain _))⟩, trivial⟩ .nil) (fun f => hex1 _ _ _ f hout hz))
    have h2 : 0 < cB B i := by rw [ec] at h2; have h9 : (cB B i : Int) ≠ 0 := (by simpa using h2); omega
    refine ifK (fun h3 => ?_) (fun h3 => ?_)
    · have h3 : 192 ≤ cB B i := by rw [ec] at h3; have := of_decide_eq_true h3; omega
      refine Exists.intro (⟨0, o, n, c, l⟩, (i : Int)) (And.intro ⟨rfl, ⟨rfl, h⟩, hn⟩ ?_)
      refine ifK (fun h4 => absurd h4 (by simp; omega)) (fun _ => ?_)
      refine ifK (fun h4 => ?_) (fun h4 => ?_)
      · have h4 : i + 2 ≤ n := Nat.le_of_ble_eq_true (show Nat.ble (i + 2) n = true from h4)
        refine Exists.intro (0 : Int) (And.intro rfl ?_)
        have et : bitsI .and .i64 (beN ((l.drop (o + ((i : Nat) : Int).toNat)).take 2) : Int) 16383 = (toB B i : Int) := by rw [Int.toNat_natCast, htake i 2 h4, two_eq B i (by omega) h3]
        refine ifK (fun h5 => ?_) (fun h5 => ?_)
        · have h5 : p ≤ toB B i := by have := of_decide_eq_true h5; rw [et] at this; omega
          refine And.intro rfl (rc_end (rc_slots [1] rfl rfl rfl (fun l e => by cases e) (by decide) (by decide) rfl rfl (wr_of rfl) (d := 7) (d2 := 2) (lv := [(4, .string ⟨#[]⟩), (5, .int .i64 0), (6, .pointer (some ⟨1, 0, none⟩))]) (bs := [(1, .cells [.int .i64 (150), .int .i64 ((i : Int))] 55)]) (W := []) (m := 2) (df := []) ⟨⟨_, rfl, .string _⟩, ⟨_, rfl, .int _ _⟩, ⟨_, rfl, .ptr _ _ _ rfl⟩, trivial⟩ ⟨⟨by decide, _, rfl, .same rfl⟩, trivial⟩ .nil) (fun f => hret (150) ((i : Int)) f (hinv _ ?_)))
          exact .ploop (by omega) h3 (by omega) h5
        · have h5 : toB B i < p := by have := of_decide_eq_false h5; rw [et] at this; omega
          have hst : ∀ r, Rd B a (toB B i) (toB B i) (u :: us) (if bh < 0 then (i : Int) + 2 else bh) r → Rd B a a a [] (-1) r := fun r hr => hinv r (.ptr (by omega) h3 (by omega) h5 hr)
          have hmu : (toB B i) * (n + 2) + (n + 1 - toB B i) < p * (n + 2) + (n + 1 - i) := by
            have := Nat.mul_le_mul_right (n + 2) (show toB B i + 1 ≤ p from h5)
            rw [Nat.add_mul, Nat.one_mul] at this; omega
          refine ifK (fun h6 => ?_) (fun h6 => ?_)
          · have h6 : bh < 0 := of_decide_eq_true h6
            simp only [if_pos h6] at hst
            refine ⟨(toB B i, toB B i, (u :: us), ((i + 2 : Nat) : Int)), ⟨by show toB B i ≤ n; omega, by show toB B i ≤ n; omega, hout, ⟨by show -1 ≤ ((i + 2 : Nat) : Int); omega, by show ((i + 2 : Nat) : Int) ≤ _; omega⟩, fun r hr => hst r (by have e : ((i + 2 : Nat) : Int) = (i : Int) + 2 := (by omega); rw [← e]; exact hr)⟩, hmu, ?_⟩
            exact rc_slots [1, 2] rfl rfl rfl (fun l e => by cases e) (by decide) (by decide) rfl rfl (wr_of rfl) ⟨⟨_, rfl, .sl _ _ _ _ _ rfl⟩, ⟨_, rfl, .int _ _⟩, ⟨_, rfl, .ptr _ _ _ rfl⟩, ⟨_, rfl, .sl _ _ _ _ _ rfl⟩, ⟨_, rfl, by rw [← et]; exact .int _ _⟩, ⟨_, rfl, by rw [← et]; exact .int _ _⟩, ⟨_, rfl, .int _ _⟩, trivial⟩ ⟨⟨by decide, _, rfl, (by first | exact .same (byV_plain _) | exact .sameW (byV_plain _))⟩, ⟨by decide, _, rfl, .same rfl⟩, ⟨by decide, _, rfl, (by first | exact .same (byV_plain _) | exact .sameW (byV_plain _))⟩, trivial⟩ .nil
          · have h6 : ¬ bh < 0 := of_decide_eq_false h6
            simp only [if_neg h6] at hst
            refine ⟨(toB B i, toB B i, (u :: us), bh), ⟨by show toB B i ≤ n; omega, by show toB B i ≤ n; omega, hout, ⟨by show -1 ≤ bh; omega, by show bh ≤ _; omega⟩, fun r hr => hst r hr⟩, hmu, ?_⟩
            exact rc_slots [1, 2] rfl rfl rfl (fun l e => by cases e) (by decide) (by decide) rfl rfl (wr_of rfl) ⟨⟨_, rfl, .sl _ _ _ _ _ rfl⟩, ⟨_, rfl, .int _ _⟩, ⟨_, rfl, .ptr _ _ _ rfl⟩, ⟨_, rfl, .sl _ _ _ _ _ rfl⟩, ⟨_, rfl, by rw [← et]; exact .int _ _⟩, ⟨_, rfl, by rw [← et]; exact .int _ _⟩, ⟨_, rfl, .int _ _⟩, trivial⟩ ⟨⟨by decide, _, rfl, (by first | exact .same (byV_plain _) | exact .sameW (byV_plain _))⟩, ⟨by decide, _, rfl, .same rfl⟩, ⟨by decide, _, rfl, (by first | exact .same (byV_plain _) | exact .sameW (byV_plain _))⟩, trivial⟩ .nil
      · have h4 : n < i + 2 := by have h9 : ¬ i + 2 ≤ n := fun e => (by have h8 := Nat.ble_eq_true_of_le e; have h4 : Nat.ble (i + 2) n = false := h4; rw [h8] at h4; cases h4); omega
        refine Exists.intro (4 : Int) (And.intro rfl ?_)
        refine And.intro ?_ ?_
        · kernel_rfl
        refine Exists.intro (4 : Int) (Exists.intro (n : Int) (And.intro ⟨hsz, rfl⟩ ?_))
        refine And.intro rfl (rc_end (rc_slots [1] rfl rfl rfl (fun l e => by cases e) (by decide) (by decide) rfl rfl (wr_of rfl) (d := 7) (d2 := 2) (lv := [(4, .string ⟨#[]⟩), (5, .int .i64 0), (6, .pointer (some ⟨1, 0, none⟩))]) (bs := [(1, .cells [.int .i64 (4), .int .i64 ((n : Int))] 55)]) (W := []) (m := 2) (df := []) ⟨⟨_, rfl, .string _⟩, ⟨_, rfl, .int _ _⟩, ⟨_, rfl, .ptr _ _ _ rfl⟩, trivial⟩ ⟨⟨by decide, _, rfl, .same rfl⟩, trivial⟩ .nil) (fun f => hret (4) ((n : Int)) f (hinv _ ?_)))
        rw [← hlB]; exact .pshort (by omega) h3 (by omega)
    have h3 : cB B i < 192 := by rw [ec] at h3; have := of_decide_eq_false h3; omega
    refine ifK (fun h4 => ?_) (fun h4 => ?_)
    · have h4 : 63 < cB B i := by rw [ec] at h4; have := of_decide_eq_true h4; omega
      refine And.intro rfl (rc_end (rc_slots [1] rfl rfl rfl (fun l e => by cases e) (by decide) (by decide) rfl rfl (wr_of rfl) (d := 7) (d2 := 2) (lv := [(4, .string ⟨#[]⟩), (5, .int .i64 0), (6, .pointer (some ⟨1, 0, none⟩))]) (bs := [(1, .cells [.int .i64 (4), .int .i64 ((i : Int))] 55)]) (W := []) (m := 2) (df := []) ⟨⟨_, rfl, .string _⟩, ⟨_, rfl, .int _ _⟩, ⟨_, rfl, .ptr _ _ _ rfl⟩, trivial⟩ ⟨⟨by decide, _, rfl, .same rfl⟩, trivial⟩ .nil) (fun f => hret (4) ((i : Int)) f (hinv _ ?_)))
      exact .bad (by omega) h4 h3
    have h4 : cB B i ≤ 63 := by rw [ec] at h4; have := of_decide_eq_false h4; omega
    have ez : IntKind.i64.wrap (IntKind.i64.wrap (cB B i : Int) + 1) = ((cB B i + 1 : Nat) : Int) := by rw [ec, wrapM (by omega) (by omega)]; omega
    refine Exists.intro (⟨0, o, n, c, l⟩, ((i : Int), ((cB B i + 1 : Nat) : Int))) (And.intro ⟨by rw [ez]; rfl, ⟨rfl, h⟩, hn, hcap⟩ ?_)
    refine ifK (fun h5 => absurd h5 (by simp; omega)) (fun _ => ?_)
    refine ifK (fun h5 => ?_) (fun h5 => ?_)
    · have h5 : n < i + (cB B i + 1) := by have h5 : (n : Int) - (i : Int) < ((cB B i + 1 : Nat) : Int) := (of_decide_eq_true h5); omega
      refine Exists.intro (4 : Int) (And.intro rfl ?_)
      refine And.intro ?_ ?_
      · kernel_rfl
      refine Exists.intro (4 : Int) (Exists.intro (n : Int) (And.intro ⟨hsz, rfl⟩ ?_))
      refine And.intro rfl (rc_end (rc_slots [1] rfl rfl rfl (fun l e => by cases e) (by decide) (by decide) rfl rfl (wr_of rfl) (d := 7) (d2 := 2) (lv := [(4, .string ⟨#[]⟩), (5, .int .i64 0), (6, .pointer (some ⟨1, 0, none⟩))]) (bs := [(1, .cells [.int .i64 (4), .int .i64 ((n : Int))] 55)]) (W := []) (m := 2) (df := []) ⟨⟨_, rfl, .string _⟩, ⟨_, rfl, .int _ _⟩, ⟨_, rfl, .ptr _ _ _ rfl⟩, trivial⟩ ⟨⟨by decide, _, rfl, .same rfl⟩, trivial⟩ .nil) (fun f => hret (4) ((n : Int)) f (hinv _ ?_)))
      rw [← hlB]; exact .short (by omega) h2 h4 (by omega)
    have h5 : i + (cB B i + 1) ≤ n := by have h5 : ¬ (n : Int) - (i : Int) < ((cB B i + 1 : Nat) : Int) := (of_decide_eq_false h5); omega
    have hst : ∀ r, Rd B a p (i + (cB B i + 1)) ((u :: us) ++ (B.drop i).take (cB B i + 1)) bh r → (u :: us).length + (cB B i + 1) ≤ 254 → Rd B a a a [] (-1) r := fun r hr hl => hinv r (.lab (by omega) h2 h4 (by omega) hl hr)
    have htl : ((B.drop i).take (cB B i + 1)).length = cB B i + 1 := by rw [List.length_take, List.length_drop]; omega
    have hsrc : ∀ G : Gh, G 3 = some (.cells (((l.drop (o + i)).take (cB B i + 1)).map byV) 5) → srcCells G 1 (.slice (some ⟨3, 0, none⟩) (cB B i + 1) U) = some (cB B i + 1, ((B.drop i).take (cB B i + 1)).map byV) := fun G hG => by
      unfold srcCells
      simp only [hG, Option.bind_some, AObj.look, show (cB B i + 1).beq 0 = false from rfl, cond_false]
      rw [htake i _ h5, Nat.ble_eq_true_of_le (by rw [List.length_map, htl]; omega)]
      simp only [cond_true, List.drop_zero, Nat.mul_one]
      rw [List.take_of_length_le (by rw [List.length_map, htl]; omega)]
    refine Exists.intro (((B.drop i).take (cB B i + 1)).map byV) (And.intro (by rw [h1s]; exact hsrc _ rfl) ?_)
    have hul0 : us.length + 1 ≤ 254 := hout
    have hone : oneL (((B.drop i).take (cB B i + 1)).map byV) = true := by unfold oneL; exact List.all_eq_true.2 (fun v hv => by obtain ⟨b, _, rfl⟩ := List.mem_map.1 hv; rfl)
    refine And.intro (by rw [Int.toNat_natCast, hby, h1s]; simp only [Bool.and_eq_true, decide_eq_true_eq]; exact ⟨⟨⟨⟨⟨⟨rfl, rfl⟩, Nat.ble_eq_true_of_le (by simp)⟩, hone⟩, (by omega)⟩, (by omega)⟩, Nat.ble_eq_true_of_le (by rw [List.length_map, List.length_map, htl, List.length_cons]; omega)⟩) ?_
    refine ifK (fun h6 => ?_) (fun h6 => ?_)
    · have h6 : 254 < (u :: us).length + (cB B i + 1) := by have h6 : (((us.length + 1 + (cB B i + 1) : Nat)) : Int) > 254 := (of_decide_eq_true h6); simp only [List.length_cons]; omega
      refine And.intro rfl (rc_end (rc_slots [1] rfl rfl rfl (fun l e => by cases e) (by decide) (by decide) rfl rfl (wr_of rfl) (d := 7) (d2 := 2) (lv := [(4, .string ⟨#[]⟩), (5, .int .i64 0), (6, .pointer (some ⟨1, 0, none⟩))]) (bs := [(1, .cells [.int .i64 (3), .int .i64 ((a : Int))] 55)]) (W := []) (m := 2) (df := []) ⟨⟨_, rfl, .string _⟩, ⟨_, rfl, .int _ _⟩, ⟨_, rfl, .ptr _ _ _ rfl⟩, trivial⟩ ⟨⟨by decide, _, rfl, .same rfl⟩, trivial⟩ .nil) (fun f => hret (3) ((a : Int)) f (hinv _ ?_)))
      exact .long (by omega) h2 h4 (by omega) h6
    have h6 : (u :: us).length + (cB B i + 1) ≤ 254 := by have h6 : ¬ (((us.length + 1 + (cB B i + 1) : Nat)) : Int) > 254 := (of_decide_eq_false h6); simp only [List.length_cons]; omega
    refine ⟨(p, i + (cB B i + 1), u :: (us ++ (B.drop i).take (cB B i + 1)), bh), ⟨hp, h5, by show (us ++ (B.drop i).take (cB B i + 1)).length + 1 ≤ 254; rw [List.length_append, htl]; simp only [List.length_cons] at h6; omega, ⟨hb1, hb2⟩, fun r hr => hst r hr h6⟩, ?_, ?_⟩
    · show p * (n + 2) + (n + 1 - (i + (cB B i + 1))) < p * (n + 2) + (n + 1 - i); omega
    · refine rc_slots [1, 5] rfl rfl rfl (fun l e => by cases e) (by decide) (by decide) rfl rfl (wr_of rfl) ⟨⟨_, rfl, .sl _ _ _ _ _ rfl⟩, ⟨_, rfl, .int _ _⟩, ⟨_, rfl, .ptr _ _ _ rfl⟩, ⟨_, rfl, ?_⟩, ⟨_, rfl, .int _ _⟩, ⟨_, rfl, by rw [show ((i + (cB B i + 1) : Nat) : Int) = (i : Int) + ((cB B i + 1 : Nat) : Int) by omega]; exact .int _ _⟩, ⟨_, rfl, .int _ _⟩, trivial⟩ ⟨⟨by decide, _, rfl, (by first | exact .same (byV_plain _) | exact .sameW (byV_plain _))⟩, ⟨by decide, _, rfl, .same rfl⟩, ⟨by decide, _, rfl, ro_eq ?_ (byV_plain _)⟩, trivial⟩ .nil
      · rw [show (us ++ (B.drop i).take (cB B i + 1)).length + 1 = us.length + 1 + (cB B i + 1) by rw [List.length_append, htl]; omega]; exact .sl _ _ _ _ _ rfl
      · rw [h1s, Nat.mul_one, List.take_of_length_le (by simp)]; simp
end Go.Proofs.Ytmpaeabkdhjamaa
/- DERIVED. Names in messages: Read, its contract. -/
namespace Go.Proofs.Ytmpaeabkdhjamaa
open Go Go.RowKit
def wrQ (B : Bl) (x : Int) (r : Res) : Prop := ∃ res, rdOk B x res ∧ ∃ H m wr, r = .ret (rrV res) H m wr ∧ ∀ k ∈ wr, 1 ≤ k
set_option maxRecDepth 1000000 in
set_option maxHeartbeats 4000000 in
theorem read_fn (l : Bl) (o n c : Nat) (x : Int) (h : o + n ≤ l.length) (hn : n ≤ 1000000000) (hcap : c = U ∨ n ≤ c ∧ c ≤ 9223372036854775807) : ∃ r, FnS Try.prog 0 71 [.slice (some ⟨0, o, none⟩) n c, .int .i64 x] (heap 1 [(0, .win (l.map byV) 1)]) 1 r ∧ wrQ ((l.drop o).take n) x r := by
  have hlB := lenB h
  refine fn_sx mixed tbW3 [0, 4] Try.func71 (c := bodyOf Try.f71) (by kernel_rfl) ?_
  refine ifK (fun h1 => ?_) (fun h1 => ?_)
  · have h1 := of_decide_eq_true h1
    exact ⟨⟨[], 0, 5, 0⟩, .inl ⟨.inl h1, rfl⟩, _, _, _, rfl, wr_ge rfl⟩
  have h1 := of_decide_eq_false h1
  refine ifK (fun h2 => ?_) (fun h2 => ?_)
  · have h2 := of_decide_eq_true h2
    exact ⟨⟨[], 0, 5, 0⟩, .inl ⟨.inr (by rw [hlB]; omega), rfl⟩, _, _, _, rfl, wr_ge rfl⟩
  have h2 := of_decide_eq_false h2
  obtain ⟨a, rfl⟩ : ∃ a : Nat, x = (a : Int) := ⟨x.toNat, by omega⟩
  have ha : a ≤ n := by omega
  refine read_loop l o n c a h hn hcap ha (rc_slots [1] rfl rfl rfl (fun l e => by cases e) (by decide) (by decide) rfl rfl (wr_of rfl) ⟨⟨_, rfl, .sl _ _ _ _ _ rfl⟩, ⟨_, rfl, .int _ _⟩, ⟨_, rfl, .ptr _ _ _ rfl⟩, ⟨_, rfl, plain_rv 8 rfl⟩, ⟨_, rfl, .int _ _⟩, ⟨_, rfl, .int _ _⟩, ⟨_, rfl, .int _ _⟩, trivial⟩ ⟨⟨by decide, _, rfl, .sameW (byV_plain l)⟩, ⟨by decide, _, rfl, .same rfl⟩, trivial⟩ .nil) (fun e pos f hr => ?_) (fun bh f hr => ?_) (fun u us bh f hl hr => ?_)
  · exact ⟨⟨[], 0, e, pos⟩, .inr ⟨a, rfl, by omega, hr⟩, _, _, _, rfl, wr_ge rfl⟩
  · exact ⟨⟨[0], bh, 0, 0⟩, .inr ⟨a, rfl, by omega, hr⟩, _, _, _, rfl, wr_ge rfl⟩
  · have h1s : (Try.prog.types[5]).size = 1 := by kernel_rfl
    have hby : (Try.prog.types[5]).bytes = 1 := by kernel_rfl
    have hl0 : us.length + 1 ≤ 254 := hl
    refine And.intro (by rw [hby, h1s]; simp only [Bool.and_eq_true, decide_eq_true_eq]; exact ⟨⟨⟨⟨⟨⟨rfl, rfl⟩, Nat.ble_eq_true_of_le (by simp)⟩, rfl⟩, (by omega)⟩, (by omega)⟩, Nat.ble_eq_true_of_le (by simp)⟩) ?_
    refine Exists.intro ((u :: us) ++ [0]) (And.intro ?_ ?_)
    · have hsrc : ∀ G : Gh, G 4 = some (.cells ((((u :: us).map byV).take ((us.length + 1) * (Try.prog.types[5]).size)) ++ [.int .u8 0]) 5) → srcCells G 1 (.slice (some ⟨4, 0, none⟩) (us.length + 1 + 1) U) = some (us.length + 1 + 1, ((u :: us) ++ [0]).map fun b : UInt8 => Value.int .u8 (b.toNat : Int)) := fun G hG => by
        rw [h1s, Nat.mul_one, List.take_of_length_le (by simp)] at hG
        unfold srcCells
        simp only [hG, Option.bind_some, AObj.look, show (us.length + 1 + 1).beq 0 = false from rfl, cond_false]
        rw [Nat.ble_eq_true_of_le (by simp)]
        simp only [cond_true, List.drop_zero, Nat.mul_one]
        rw [List.take_of_length_le (by simp), List.map_append]; rfl
      exact hsrc _ rfl
    · exact ⟨⟨(u :: us) ++ [0], bh, 0, 0⟩, .inr ⟨a, rfl, by omega, hr⟩, _, _, _, rfl, wr_ge rfl⟩
end Go.Proofs.Ytmpaeabkdhjamaa
/- DERIVED. Names in messages: Read, as a contract. -/
namespace Go.Proofs.Ytmpaeabkdhjamaa
open Go Go.RowKit
def RdB.B (x : RdB) : Bl := (x.l.drop x.o).take x.n
def RdB.small (x : RdB) : Prop := x.n ≤ 1000000000 ∧ (x.c = U ∨ x.n ≤ x.c ∧ x.c ≤ 9223372036854775807)
noncomputable def cq_wread : CtQ Try.prog :=
  { f := 71, X := RdB × Int, pre := fun x a H _ => a = [x.1.sl, .int .i64 x.2] ∧ x.1.at H ∧ x.1.small, Q := fun x v => ∃ r : RR, v = rrV r ∧ rdOk x.1.B x.2 r,
    ok := fun ⟨⟨b, o, n, c, l⟩, i⟩ a H m ⟨h1, h2, h3⟩ => by
      subst h1
      obtain ⟨r, hF, res, hr, H', m', wr, rfl, hw⟩ := read_fn l o n c i h2.2 h3.1 h3.2
      exact ⟨rrV res, callOK_reads [b] hF hw dup_one (.cons _ _ _ _ (.sl _ _ _ _ _ rfl) (plain_rl rfl)) (rd_blocks h2.1 (byV_plain l)) (rrV_plain res), res, rfl, hr⟩,
    uniq := fun ⟨x, i⟩ ⟨y, j⟩ a H m ⟨h1, h2, _⟩ ⟨k1, k2, _⟩ => by
      rw [h1] at k1
      simp only [List.cons.injEq, Value.int.injEq, true_and, and_true] at k1
      rw [RdB.uniq k1.1 h2 k2, k1.2] }
noncomputable def ct_wread : Ct Try.prog 0 := cq_wread.ct
/-- What holds of what is read. -/
theorem Rd.name {B : Bl} {a p i : Nat} {out : Bl} {bh : Int} {r : RR} (h : Rd B a p i out bh r) (ha : a ≤ B.length) (hi : i ≤ B.length) (hp : p ≤ B.length) (hbh : bh ≤ B.length) : (r.e = 0 ∨ r.s = []) ∧ (r.e ≠ 0 → 0 ≤ r.pos ∧ r.pos ≤ B.length) ∧ (r.e = 0 → r.next ≤ B.length) := by
  have z : ∀ k : Nat, (0 : Int) ≤ (k : Int) := fun k => Int.natCast_nonneg k
  have le : ∀ k m : Nat, k ≤ m → (k : Int) ≤ (m : Int) := fun k m h => Int.ofNat_le.2 h
  induction h with
  | over h => exact ⟨.inr rfl, fun _ => ⟨z _, Int.le_refl _⟩, fun e => by cases e⟩
  | zero h hc =>
    refine ⟨.inl rfl, fun e => absurd rfl e, fun _ => ?_⟩
    dsimp only
    split
    · exact le (_ + 1) _ h
    · exact hbh
  | pshort h hc h2 => exact ⟨.inr rfl, fun _ => ⟨z _, Int.le_refl _⟩, fun e => by cases e⟩
  | ploop h hc h2 h3 => exact ⟨.inr rfl, fun _ => ⟨z _, le _ _ (by omega)⟩, fun e => by cases e⟩
  | ptr h hc h2 h3 hr ih =>
    refine ih (by omega) (by omega) ?_
    split
    · exact le (_ + 2) _ h2
    · exact hbh
  | bad h hc hc2 => exact ⟨.inr rfl, fun _ => ⟨z _, le _ _ (by omega)⟩, fun e => by cases e⟩
  | short h hc hc2 h2 => exact ⟨.inr rfl, fun _ => ⟨z _, Int.le_refl _⟩, fun e => by cases e⟩
  | long h hc hc2 h2 h3 => exact ⟨.inr rfl, fun _ => ⟨z _, le _ _ ha⟩, fun e => by cases e⟩
  | lab h hc hc2 h2 h3 hr ih => exact ih h2 hp hbh
end Go.Proofs.Ytmpaeabkdhjamaa
/- DERIVED. Data: the parts of a type. -/
namespace Go.Proofs.Ytmpaeabkdhjamaa
open Go Go.RowKit

def rOf (Q : Value → Tr AObj → Prop) (r : Res) : Prop := match r with | .ret v H _ _ => Q v H | _ => False
def resV (r : Res) : Value := match r with | .ret v _ _ _ => v | _ => .nilFunc

noncomputable def evP (t : Int) : Res := ev Try.prog 0 1000 (.call 75 [.int .i64 t]) ⟨.e, .e, 0, [], []⟩
theorem parts_tree (t : Int) (Q : Value → Tr AObj → Prop) : (frcTr (tmpsOf [.int .i64 t] 0 .e) fun T => sx (tbK mixed (g0 := 0) true []) [] 0 (1 + (Try.f75.ntmps - 1)) none (bodyOf Try.f75) ⟨T, .e, 0, [], []⟩ (fnK (tbK mixed (g0 := 0) true []) Try.f75 (rOf Q))) =
    brK (t == 1) (Q (resV (evP 1)) (resH (evP 1))) (brK (t == 28) (Q (resV (evP 28)) (resH (evP 1))) (brK (t == 2) (Q (resV (evP 2)) (resH (evP 1))) (brK (t == 5) (Q (resV (evP 5)) (resH (evP 1))) (brK (t == 12) (Q (resV (evP 12)) (resH (evP 1)))
      (brK (t == 15) (Q (resV (evP 15)) (resH (evP 1))) (brK (t == 6) (Q (resV (evP 6)) (resH (evP 1))) (brK (t == 16) (Q (resV (evP 16)) (resH (evP 1))) (Q (.tuple #[.slice none 0 0, .bool false]) (resH (evP 1)))))))))) := by kernel_rfl

/-- A part: so many bytes, or a name, or texts up to the end. -/
def part (n : Int) (name rest : Bool) : List Value := [.int .i64 n, .bool name, .bool rest]
/-- The parts of the types that are known: how many, their cells. -/
def partsTab : List (Int × Nat × List Value) :=
  [(1, 1, part 4 false false), (28, 1, part 16 false false), (2, 1, part 0 true false), (5, 1, part 0 true false), (12, 1, part 0 true false), (15, 2, part 2 false false ++ part 0 true false),
   (6, 3, part 0 true false ++ part 0 true false ++ part 20 false false), (16, 1, part 0 false true)]
def partsOut (len : Nat) (c : List Value) (H : Tr AObj) (n : Nat) : Res := .ret (.tuple #[.slice (some ⟨n, 0, none⟩) len len, .bool true]) (H.set n (some (.cells c 116))) (n + 1) []
def partsGo (t : Int) (H : Tr AObj) (n : Nat) : List (Int × Nat × List Value) → Res
  | [] => .ret (.tuple #[.slice none 0 0, .bool false]) H n []
  | (k, len, c) :: l => bif t == k then partsOut len c H n else partsGo t H n l
def partsK (t : Int) (H : Tr AObj) (n : Nat) (K : Res → Prop) : List (Int × Nat × List Value) → Prop
  | [] => K (.ret (.tuple #[.slice none 0 0, .bool false]) H n [])
  | (k, len, c) :: l => brK (t == k) (K (partsOut len c H n)) (partsK t H n K l)
theorem partsK_imp {t : Int} {H : Tr AObj} {n : Nat} {K : Res → Prop} : ∀ {l : List (Int × Nat × List Value)}, partsK t H n K l → K (partsGo t H n l)
  | [], h => h
  | (k, len, c) :: l, h => by
    unfold partsK at h
    unfold partsGo
    cases hb : (t == k) with
    | true => rw [hb] at h; exact h
    | false => rw [hb] at h; exact partsK_imp (l := l) h

set_option maxRecDepth 1000000 in
theorem parts_ok (t : Int) (H : Tr AObj) (n : Nat) : CallOK Try.prog 0 75 [.int .i64 t] H n (partsGo t H n partsTab) := by
  have main : ∀ v, (frcTr (tmpsOf [.int .i64 t] 0 .e) fun T => sx (tbK mixed (g0 := 0) true []) [] 0 (1 + (Try.f75.ntmps - 1)) none (bodyOf Try.f75) ⟨T, .e, 0, [], []⟩ (fnK (tbK mixed (g0 := 0) true []) Try.f75 (rOf fun v' H' => v' = v ∧ H' = resH (evP 1)))) → ∃ m wr, FnS Try.prog 0 75 [.int .i64 t] .e 0 (.ret v (resH (evP 1)) m wr) := by
    intro v h
    obtain ⟨r, h1, h2⟩ := fn_sx mixed (tbK mixed true []) [] Try.func75 (c := bodyOf Try.f75) (by kernel_rfl) h
    cases r with
    | ret v' H' m wr => obtain ⟨rfl, rfl⟩ := h2; exact ⟨m, wr, h1⟩
    | _ => exact h2.elim
  have one : ∀ (b len : Nat) (c : List Value), (∃ m wr, FnS Try.prog 0 75 [.int .i64 t] .e 0 (.ret (.tuple #[.slice (some ⟨b, 0, none⟩) len len, .bool true]) (resH (evP 1)) m wr)) → (resH (evP 1)).get b = some (.cells c 116) → b < JJ → plainL c = true → CallOK Try.prog 0 75 [.int .i64 t] H n (partsOut len c H n) := by
    rintro b len c ⟨m, wr, hF⟩ hb hJ hp
    exact callOK_fresh1 (fun n => .tuple #[.slice (some ⟨n, 0, none⟩) len len, .bool true]) hF rfl hb hJ hp (fun n => .tuple _ _ (.cons _ _ _ _ (.sl _ _ _ _ _ (tau_one _ _)) (.cons _ _ _ _ (.bool _) .nil))) H n
  unfold partsTab
  simp only [partsGo]
  cases h1 : (t == 1) with
  | true => exact one 2 1 _ (main _ (by rw [parts_tree, h1]; exact ⟨(by kernel_rfl), rfl⟩)) (by kernel_rfl) (by decide) rfl
  | false =>
  cases h2 : (t == 28) with
  | true => exact one 3 1 _ (main _ (by rw [parts_tree, h1, h2]; exact ⟨(by kernel_rfl), rfl⟩)) (by kernel_rfl) (by decide) rfl
  | false =>
  cases h3 : (t == 2) with
  | true => exact one 4 1 _ (main _ (by rw [parts_tree, h1, h2, h3]; exact ⟨(by kernel_rfl), rfl⟩)) (by kernel_rfl) (by decide) rfl
  | false =>
  cases h4 : (t == 5) with
  | true => exact one 5 1 _ (main _ (by rw [parts_tree, h1, h2, h3, h4]; exact ⟨(by kernel_rfl), rfl⟩)) (by kernel_rfl) (by decide) rfl
  | false =>
  cases h5 : (t == 12) with
  | true => exact one 6 1 _ (main _ (by rw [parts_tree, h1, h2, h3, h4, h5]; exact ⟨(by kernel_rfl), rfl⟩)) (by kernel_rfl) (by decide) rfl
  | false =>
  cases h6 : (t == 15) with
  | true => exact one 7 2 _ (main _ (by rw [parts_tree, h1, h2, h3, h4, h5, h6]; exact ⟨(by kernel_rfl), rfl⟩)) (by kernel_rfl) (by decide) rfl
  | false =>
  cases h7 : (t == 6) with
  | true => exact one 8 3 _ (main _ (by rw [parts_tree, h1, h2, h3, h4, h5, h6, h7]; exact ⟨(by kernel_rfl), rfl⟩)) (by kernel_rfl) (by decide) rfl
  | false =>
  cases h8 : (t == 16) with
  | true => exact one 9 1 _ (main _ (by rw [parts_tree, h1, h2, h3, h4, h5, h6, h7, h8]; exact ⟨(by kernel_rfl), rfl⟩)) (by kernel_rfl) (by decide) rfl
  | false =>
    obtain ⟨m, wr, hF⟩ := main (.tuple #[.slice none 0 0, .bool false]) (by rw [parts_tree, h1, h2, h3, h4, h5, h6, h7, h8]; exact ⟨rfl, rfl⟩)
    exact callOK_pure hF rfl rfl H n

def ct_parts : Ct Try.prog 0 where
  f := 75
  res l H n := match l with | [.int .i64 t] => partsGo t H n partsTab | _ => .bad "arguments" []
  ok l H n := by
    split
    · rename_i t
      have := parts_ok t H n
      generalize partsGo t H n partsTab = r at this ⊢
      cases r <;> first | exact this | trivial
    · trivial
  ck l H n K := match l with | [.int .i64 t] => partsK t H n K partsTab | _ => False
  imp l H n K h := by
    split at h
    · exact partsK_imp h
    · exact h.elim
end Go.Proofs.Ytmpaeabkdhjamaa
/- DERIVED. Data: the name in front. -/
namespace Go.Proofs.Ytmpaeabkdhjamaa
open Go Go.RowKit

/-- Where the first name of some bytes has its last 0. -/
def zposF : Nat → Bs → Option Nat
  | 0, _ => none
  | _ + 1, [] => none
  | n + 1, c :: r => if c.toNat = 0 then some 0 else (zposF n (r.drop c.toNat)).map (· + (c.toNat + 1))
theorem zposF_eq : ∀ (n m : Nat) (l : Bs), l.length < n → l.length < m → zposF n l = zposF m l
  | n + 1, m + 1, [], _, _ => rfl
  | n + 1, m + 1, c :: r, h1, h2 => by
    simp only [zposF]
    rw [zposF_eq n m (r.drop c.toNat) (by simp at h1 ⊢; omega) (by simp at h2 ⊢; omega)]
def zpos (l : Bs) : Option Nat := zposF (l.length + 1) l
theorem zpos_nil : zpos [] = none := rfl
theorem zpos_cons (c : UInt8) (r : Bs) : zpos (c :: r) = if c.toNat = 0 then some 0 else (zpos (r.drop c.toNat)).map (· + (c.toNat + 1)) := by
  unfold zpos
  simp only [zposF, List.length_cons]
  rw [zposF_eq (r.length + 1) ((r.drop c.toNat).length + 1) _ (by simp; omega) (by omega)]
theorem zpos_at (l : Bs) (i : Nat) (h : i < l.length) : zpos (l.drop i) = if l[i].toNat = 0 then some 0 else (zpos (l.drop (i + 1 + l[i].toNat))).map (· + (l[i].toNat + 1)) := by
  rw [List.drop_eq_getElem_cons h, zpos_cons, List.drop_drop]
theorem zpos_lt : ∀ (n : Nat) (l : Bs) (k : Nat), l.length ≤ n → zpos l = some k → k < l.length
  | 0, l, k, hn, h => by
    have : l = [] := List.length_eq_zero_iff.1 (by omega)
    subst this; cases h
  | n + 1, [], k, _, h => by cases h
  | n + 1, c :: r, k, hn, h => by
    rw [zpos_cons] at h
    split at h
    · cases h; simp
    · obtain ⟨j, hj, rfl⟩ := Option.map_eq_some_iff.1 h
      have := zpos_lt n (r.drop c.toNat) j (by simp at hn ⊢; omega) hj
      simp at this ⊢; omega
theorem labels_len {l : Bs} (h : (labels l).2 = 0) : l.length ≤ 255 := by
  unfold labels at h
  split at h
  · cases h
  · split at h
    · cases h
    · omega
/-- How long the name is that some bytes begin with. -/
def front (l : Bs) : Option Nat := match zpos l with | some k => if (labels (l.take (k + 1))).2 = 0 then some (k + 1) else none | none => none

def unfitV : Value := .iface 125 (.agg #[])
noncomputable def tbD3 : Tb Try.prog 0 := tbOf mixed [ct_check]
def fullB (s : ByteArray) : Bs := bs s

set_option maxRecDepth 100000 in
theorem first_fn (s : ByteArray) (hs : (bs s).length ≤ 1000000000) : ∃ r, FnS Try.prog 0 82 [.string s] .e 0 r ∧ ∃ H m wr, (∃ k, front (bs s) = some k ∧ r = .ret (.string (subS s 0 k)) H m wr) ∨ (front (bs s) = none ∧ r = .pan [(unfitV, false)] H m wr) := by
  refine fn_sx mixed tbD3 [] Try.func82 (c := bodyOf Try.f82) (by kernel_rfl) ?_
  refine loop_go (fun i f => ⟨slots 6 [(0, .string s), (3, .int .i64 (i : Nat))] f, heap 0 [], 0, [], []⟩) (fun i => (bs s).length + 300 - i) (fun i => i ≤ (bs s).length + 256 ∧ zpos (bs s) = (zpos ((bs s).drop i)).map (· + i)) 0 ⟨Nat.zero_le _, by simp⟩
    (rc_slots [] rfl rfl rfl (fun l e => by cases e) List.nodup_nil (fun x hx => by cases hx) rfl rfl (fun k hk _ => hk) ⟨⟨_, rfl, .string _⟩, ⟨_, rfl, .int _ _⟩, trivial⟩ trivial .nil) ?_
  rintro i f ⟨hi, heq⟩
  refine sx_ok tbD3 [] 0 _ none mixed _ _ _ ?_
  refine ifK (fun h1 => ?_) (fun h1 => ?_)
  · have h1 : i < (bs s).length := by have := of_decide_eq_true h1; rw [bs_size] at this; omega
    have hb := byte_lt (bs s)[i]
    have hat := atS_get s i h1
    have hstep := zpos_at (bs s) i h1
    refine ifK (fun h2 => ?_) (fun h2 => ?_)
    · have h2 := of_decide_eq_true h2
      refine And.intro (by simp only [inI, bs_size]; simp; omega) ?_
      refine ifK (fun h3 => ?_) (fun h3 => ?_)
      · have h3 : (bs s)[i].toNat = 0 := by rw [hat] at h3; simpa using h3
        rw [if_pos h3] at hstep
        rw [hstep] at heq
        have hz : zpos (bs s) = some i := by rw [heq]; simp
        have e1 : IntKind.i64.wrap ((i : Int) + 1) = ((i + 1 : Nat) : Int) := by rw [wrapN (by omega) (by omega)]; omega
        have e2 : (IntKind.i64.wrap ((i : Int) + 1)).toNat = i + 1 := by rw [e1]; rfl
        refine And.intro (by rw [e1]; simp only [inLH, bs_size]; simp; omega) ?_
        have hsub : bs (subS s (Int.toNat 0) (IntKind.i64.wrap ((i : Int) + 1)).toNat) = (bs s).take (i + 1) := by rw [bs_sub, e2]; simp
        refine And.intro (by unfold shortB; rw [bs_size, hsub]; simp; omega) ?_
        refine ifK (fun h4 => ?_) (fun h4 => ?_)
        · have h4 : (labels ((bs s).take (i + 1))).2 = 0 := by rw [hsub] at h4; simpa using h4
          have hf : front (bs s) = some (i + 1) := by unfold front; rw [hz]; simp [h4]
          exact ⟨_, _, _, .inl ⟨i + 1, hf, by rw [← e2]; rfl⟩⟩
        · have h4 : ¬ (labels ((bs s).take (i + 1))).2 = 0 := by rw [hsub] at h4; simpa using h4
          have hf : front (bs s) = none := by unfold front; rw [hz]; simp [h4]
          exact ⟨_, _, _, .inr ⟨hf, rfl⟩⟩
      · have h3 : (bs s)[i].toNat ≠ 0 := by rw [hat] at h3; simpa using h3
        rw [if_neg h3] at hstep
        have e1 : IntKind.i64.wrap ((i : Int) + IntKind.i64.wrap (1 + IntKind.i64.wrap ((atS s (i : Int)).toNat : Int))) = ((i + 1 + (bs s)[i].toNat : Nat) : Int) := by
          rw [hat, wrapN (x := (((bs s)[i]).toNat : Int)) (by omega) (by omega), wrapN (x := 1 + (((bs s)[i]).toNat : Int)) (by omega) (by omega), wrapN (by omega) (by omega)]; omega
        refine And.intro (by simp only [inI, bs_size]; simp; omega) ?_
        refine ⟨i + 1 + (bs s)[i].toNat, ⟨by omega, ?_⟩, by omega, rc_slots [] rfl rfl rfl (fun l e => by cases e) List.nodup_nil (fun x hx => by cases hx) rfl rfl (fun k hk _ => hk) ⟨⟨_, rfl, .string _⟩, slot_int rfl e1, trivial⟩ trivial .nil⟩
        rw [heq, hstep, Option.map_map]
        congr 1
        funext j; simp; omega
    · have h2 : ¬ i < 255 := by have := of_decide_eq_false h2; omega
      have hf : front (bs s) = none := by
        unfold front
        rw [heq]
        cases hz : zpos ((bs s).drop i) with
        | none => rfl
        | some j =>
          simp only [Option.map_some]
          rw [if_neg]
          intro hl
          have h5 := labels_len hl
          have h6 := zpos_lt _ _ _ (Nat.le_refl _) hz
          simp at h5 h6; omega
      exact ⟨_, _, _, .inr ⟨hf, rfl⟩⟩
  · have h1 : ¬ i < (bs s).length := by have := of_decide_eq_false h1; rw [bs_size] at this; omega
    have hf : front (bs s) = none := by
      unfold front
      rw [heq, List.drop_eq_nil_of_le (by omega), zpos_nil]; rfl
    exact ⟨_, _, _, .inr ⟨hf, rfl⟩⟩
end Go.Proofs.Ytmpaeabkdhjamaa
/- DERIVED. Data: contracts of texts and names in front. -/
namespace Go.Proofs.Ytmpaeabkdhjamaa
open Go Go.RowKit

/-- A function of a string that was walked. -/
def Ct.strF (f : FuncId) (out : ByteArray → Value) (hp : ∀ s, plainV 8 (out s) = true) (ok : ∀ s, (bs s).length ≤ 1000000000 → ∃ H m wr, FnS Try.prog 0 f [.string s] .e 0 (.ret (out s) H m wr)) : Ct Try.prog 0 where
  f := f
  res l H n := match l with | [.string s] => bif shortB s then .ret (out s) H n [] else .bad "long" [] | _ => .bad "arguments" []
  ok l H n := by
    split
    · rename_i s
      cases hs : shortB s with
      | false => trivial
      | true => obtain ⟨_, _, _, h⟩ := ok s (short_len hs); exact callOK_pure h rfl (hp s) H n
    · trivial
  ck l H n K := match l with | [.string s] => shortB s = true ∧ K (.ret (out s) H n []) | _ => False
  imp l H n K h := by
    split at h
    · obtain ⟨h1, h2⟩ := h
      simp only [h1, cond_true]; exact h2
    · exact h.elim

def ct_texts : Ct Try.prog 0 := Ct.strF 81 (fun s => .bool (texts (bs s))) (fun _ => rfl) (fun s hs => by
  obtain ⟨r, h, H, m, wr, rfl⟩ := texts_fn s hs
  exact ⟨H, m, wr, h⟩)

/-- How long the name in front is, or 0. -/
def frontN (l : Bs) : Nat := (front l).getD 0
def ct_first : Ct Try.prog 0 where
  f := 82
  res l H n := match l with | [.string s] => bif shortB s then (bif (front (bs s)).isSome then .ret (.string (subS s 0 (frontN (bs s)))) H n [] else .pan [(unfitV, false)] H n []) else .bad "long" [] | _ => .bad "arguments" []
  ok l H n := by
    split
    · rename_i s
      cases hs : shortB s with
      | false => trivial
      | true =>
        obtain ⟨r, h, H', m, wr, ⟨k, hf, rfl⟩ | ⟨hf, rfl⟩⟩ := first_fn s (short_len hs)
        · simp only [hf, Option.isSome_some, cond_true]
          have : frontN (bs s) = k := by simp [frontN, hf]
          rw [this]
          exact callOK_pure h rfl rfl H n
        · simp only [hf, Option.isSome_none, cond_true, cond_false]
          exact callOK_purepan h rfl rfl H n
    · trivial
  ck l H n K := match l with | [.string s] => shortB s = true ∧ brK (front (bs s)).isSome (K (.ret (.string (subS s 0 (frontN (bs s)))) H n [])) (K (.pan [(unfitV, false)] H n [])) | _ => False
  imp l H n K h := by
    split at h
    · rename_i s
      obtain ⟨h1, h2⟩ := h
      simp only [h1, cond_true]
      cases hf : (front (bs s)).isSome with
      | true => rw [hf] at h2; exact h2
      | false => rw [hf] at h2; exact h2
    · exact h.elim
end Go.Proofs.Ytmpaeabkdhjamaa
/- DERIVED. Data: split. -/
namespace Go.Proofs.Ytmpaeabkdhjamaa
open Go Go.RowKit

/-- A part of a type's data: a name; texts up to the end; so many bytes. -/
inductive Pt where
  | nm
  | rest
  | sz (k : Nat)
def Pt.cell : Pt → List Value
  | .nm => part 0 true false
  | .rest => part 0 false true
  | .sz k => part k false false
def Pt.isName : Pt → Bool
  | .nm => true
  | _ => false
theorem Pt.cell_len (p : Pt) : p.cell.length = 3 := by cases p <;> rfl
theorem Pt.cell_plain (p : Pt) : plainL p.cell = true := by cases p <;> rfl
def pc (p : Bs × Bool) : List Value := [str p.1, .bool p.2]
theorem pc_len (p : Bs × Bool) : (pc p).length = 2 := rfl
theorem pc_plain (p : Bs × Bool) : plainL (pc p) = true := rfl
/-- How many bytes stand in a part. -/
def Pt.cut (p : Pt) (l : Bs) : Option Nat :=
  match p with
  | .nm => front l
  | .rest => if texts l then some l.length else none
  | .sz k => if k ≤ l.length then some k else none
def cuts : List Pt → Bs → Option (List (Bs × Bool) × Bs)
  | [], l => some ([], l)
  | p :: ps, l => match p.cut l with
    | none => none
    | some n => (cuts ps (l.drop n)).map fun x => ((l.take n, p.isName) :: x.1, x.2)
theorem front_le {l : Bs} {k : Nat} (h : front l = some k) : k ≤ l.length := by
  unfold front at h
  split at h
  · rename_i j hj
    have := zpos_lt _ _ _ (Nat.le_refl _) hj
    split at h
    · cases h; omega
    · cases h
  · cases h
theorem cut_le {p : Pt} {l : Bs} {k : Nat} (h : p.cut l = some k) : k ≤ l.length := by
  cases p with
  | nm => exact front_le h
  | rest => simp only [Pt.cut] at h; split at h <;> simp at h; omega
  | sz k' => simp only [Pt.cut] at h; split at h <;> simp at h; omega

noncomputable def tbD5 : Tb Try.prog 0 := tbOf mixed [ct_parts, ct_texts, ct_first]

/-- At the head of split's loop. -/
def spS (ps : List Pt) (x : Nat × List (Bs × Bool) × ByteArray) (f : Nat → Option Value) : Fs :=
  match x with
  | (i, acc, s) =>
    match acc with
    | [] => ⟨slots 7 [(1, .string s), (4, .pointer (some ⟨0, 0, none⟩)), (5, .pointer (some ⟨1, 0, none⟩)), (22, .slice (some ⟨2, 0, none⟩) ps.length ps.length), (23, .int .i64 ps.length), (24, .int .i64 i)] f,
        heap 3 [(0, .cells [.slice none 0 0] 96), (1, .cells [.bool false] 4), (2, .cells (ps.flatMap Pt.cell) 116)], 3, [], [.call 80 [.pointer (some ⟨0, 0, none⟩), .pointer (some ⟨1, 0, none⟩)] []]⟩
    | a :: l => ⟨slots 7 [(1, .string s), (4, .pointer (some ⟨0, 0, none⟩)), (5, .pointer (some ⟨1, 0, none⟩)), (22, .slice (some ⟨2, 0, none⟩) ps.length ps.length), (23, .int .i64 ps.length), (24, .int .i64 i)] f,
        heap 3 [(0, .cells [.slice (some ⟨3, 0, none⟩) (l.length + 1) U] 96), (1, .cells [.bool false] 4), (2, .cells (ps.flatMap Pt.cell) 116), (3, .cells ((a :: l).flatMap pc) 110)], 4, [], [.call 80 [.pointer (some ⟨0, 0, none⟩), .pointer (some ⟨1, 0, none⟩)] []]⟩
end Go.Proofs.Ytmpaeabkdhjamaa
/- DERIVED. Data: how split ends, its deferred call included. -/
namespace Go.Proofs.Ytmpaeabkdhjamaa
open Go Go.RowKit

noncomputable def endS (tb : Tb Try.prog 0) (x : Ex) (s : Fs) : Res :=
  match modeOf x with
  | some u => (match evOut Try.prog tb.go s.df u s.H s.n s.wr with
    | .ok none H n wr => (match evResults Try.prog { s with H } Try.f60.results.toList with | some vs => .ret (tupleOf vs) H n wr | none => .bad "" [])
    | _ => .bad "" [])
  | none => .bad "" []
def hOf (r : Res) : Tr AObj := match r with | .ret _ H _ _ => H | _ => .e
def nOf (r : Res) : Nat := match r with | .ret _ _ n _ => n | _ => 0
def wOf (r : Res) : List Nat := match r with | .ret _ _ _ wr => wr | _ => []

noncomputable def sEnd0 (f2 : Nat → Option Value) : Fs := ⟨slots 7 [(4, .pointer (some ⟨0, 0, none⟩)), (5, .pointer (some ⟨1, 0, none⟩))] f2, heap 2 [(0, .cells [.slice none 0 0] 96), (1, .cells [.bool false] 4)], 2, [], [.call 80 [.pointer (some ⟨0, 0, none⟩), .pointer (some ⟨1, 0, none⟩)] []]⟩
theorem end_pan0 (tb : Tb Try.prog 0) (R : Res → Prop) (f2 : Nat → Option Value) : fnK tb Try.f60 R (.pan [(unfitV, false)]) (sEnd0 f2) = R (.ret (.tuple #[.slice none 0 0, .bool false]) (hOf (endS tb (.pan [(unfitV, false)]) (sEnd0 f2))) (nOf (endS tb (.pan [(unfitV, false)]) (sEnd0 f2))) (wOf (endS tb (.pan [(unfitV, false)]) (sEnd0 f2)))) := by kernel_rfl

noncomputable def sEnd1 (k : Nat) (f2 : Nat → Option Value) : Fs := ⟨slots 7 [(4, .pointer (some ⟨0, 0, none⟩)), (5, .pointer (some ⟨1, 0, none⟩))] f2, heap 2 [(0, .cells [.slice (some ⟨2, 0, none⟩) (k + 1) U] 96), (1, .cells [.bool false] 4)], 3, [], [.call 80 [.pointer (some ⟨0, 0, none⟩), .pointer (some ⟨1, 0, none⟩)] []]⟩
theorem end_pan1 (tb : Tb Try.prog 0) (R : Res → Prop) (k : Nat) (f2 : Nat → Option Value) : fnK tb Try.f60 R (.pan [(unfitV, false)]) (sEnd1 k f2) = R (.ret (.tuple #[.slice none 0 0, .bool false]) (hOf (endS tb (.pan [(unfitV, false)]) (sEnd1 k f2))) (nOf (endS tb (.pan [(unfitV, false)]) (sEnd1 k f2))) (wOf (endS tb (.pan [(unfitV, false)]) (sEnd1 k f2)))) := by kernel_rfl

noncomputable def sEnd2 (k : Nat) (b : Bool) (c : List Value) (f2 : Nat → Option Value) : Fs := ⟨slots 7 [(4, .pointer (some ⟨0, 0, none⟩)), (5, .pointer (some ⟨1, 0, none⟩))] f2, heap 2 [(0, .cells [.slice (some ⟨2, 0, none⟩) (k + 1) U] 96), (1, .cells [.bool b] 4), (2, .cells c 110)], 3, [], [.call 80 [.pointer (some ⟨0, 0, none⟩), .pointer (some ⟨1, 0, none⟩)] []]⟩
theorem end_ret (tb : Tb Try.prog 0) (R : Res → Prop) (k : Nat) (b : Bool) (c : List Value) (f2 : Nat → Option Value) : fnK tb Try.f60 R .ret (sEnd2 k b c f2) = R (.ret (.tuple #[.slice (some ⟨2, 0, none⟩) (k + 1) U, .bool b]) (hOf (endS tb .ret (sEnd2 k b c f2))) (nOf (endS tb .ret (sEnd2 k b c f2))) (wOf (endS tb .ret (sEnd2 k b c f2)))) := by kernel_rfl
theorem end_ret_get (tb : Tb Try.prog 0) (k : Nat) (b : Bool) (c : List Value) (f2 : Nat → Option Value) : (hOf (endS tb .ret (sEnd2 k b c f2))).get 2 = some (.cells c 110) := by kernel_rfl
end Go.Proofs.Ytmpaeabkdhjamaa
/- DERIVED. Data: split, walked. -/
namespace Go.Proofs.Ytmpaeabkdhjamaa
open Go Go.RowKit

/-- The parts of one type, as a contract. -/
def ct_partsAt (t : Int) (ps : List Pt) (h : ∀ H n, partsGo t H n partsTab = partsOut ps.length (ps.flatMap Pt.cell) H n) : Ct Try.prog 0 where
  f := 75
  res l H n := match l with | [.int .i64 t'] => bif t' == t then partsOut ps.length (ps.flatMap Pt.cell) H n else .bad "type" [] | _ => .bad "arguments" []
  ok l H n := by
    split
    · rename_i t'
      cases hb : (t' == t) with
      | false => trivial
      | true =>
        have hb : t' = t := by simpa using hb
        subst hb
        have := parts_ok t' H n
        rw [h] at this
        exact this
    · trivial
  ck l H n K := match l with | [.int .i64 t'] => (t' == t) = true ∧ K (partsOut ps.length (ps.flatMap Pt.cell) H n) | _ => False
  imp l H n K h := by
    split at h
    · obtain ⟨h1, h2⟩ := h
      simp only [h1, cond_true]; exact h2
    · exact h.elim

theorem sub_take (s : ByteArray) (x : Int) (k : Nat) (h : x = k) : Value.string (subS s (Int.toNat 0) x.toNat) = str ((bs s).take k) := by
  subst h
  show _ = Value.string ⟨((bs s).take k).toArray⟩
  congr 1
theorem sub_rest (s : ByteArray) (x : Int) (k : Nat) (h : x = k) : bs (subS s x.toNat ((s.data.size : Int)).toNat) = (bs s).drop k := by
  subst h
  rw [bs_sub, Int.toNat_natCast, Int.toNat_natCast, bs_size, List.take_length]
theorem cuts_step (ps : List Pt) (i : Nat) (h : i < ps.length) (l : Bs) : cuts (ps.drop i) l = match ps[i].cut l with
    | none => none
    | some n => (cuts (ps.drop (i + 1)) (l.drop n)).map fun x => ((l.take n, ps[i].isName) :: x.1, x.2) := by
  rw [List.drop_eq_getElem_cons h]; rfl

set_option maxRecDepth 1000000 in
set_option maxHeartbeats 4000000 in
theorem split_fn (t : Int) (ps : List Pt) (hps : 0 < ps.length) (hps2 : ps.length < 1000) (ht : ∀ H n, partsGo t H n partsTab = partsOut ps.length (ps.flatMap Pt.cell) H n) (s0 : ByteArray) (hs0 : (bs s0).length ≤ 1000000000) :
    ∃ r, FnS Try.prog 0 60 [.int .i64 t, .string s0] .e 0 r ∧ ∃ H m wr,
      (∃ out rest b, cuts ps (bs s0) = some (out, rest) ∧ r = .ret (.tuple #[.slice (some ⟨b, 0, none⟩) out.length U, .bool rest.isEmpty]) H m wr ∧ H.get b = some (.cells (out.flatMap pc) 110) ∧ b < JJ) ∨
      (cuts ps (bs s0) = none ∧ r = .ret (.tuple #[.slice none 0 0, .bool false]) H m wr) := by
  refine fn_sxR mixed (tbOf mixed [ct_partsAt t ps ht, ct_texts, ct_first]) [2, 3] Try.func60 (c := bodyOf Try.f60) (by kernel_rfl) ?_
  refine And.intro (by simp) ?_
  refine loop_go (spS ps) (fun x => ps.length - x.1) (fun x => x.1 ≤ ps.length ∧ (bs x.2.2).length ≤ 1000000000 ∧ x.2.1.length = x.1 ∧ cuts ps (bs s0) = (cuts (ps.drop x.1) (bs x.2.2)).map fun y => (x.2.1 ++ y.1, y.2)) (0, [], s0) ⟨Nat.zero_le _, hs0, rfl, by simp⟩
    (rc_slots [0, 1, 2] rfl rfl rfl (fun l e => by cases e) (by decide) (by decide) rfl rfl (fun k hk h => by omega) ⟨⟨_, rfl, .string _⟩, ⟨_, rfl, .ptr _ _ _ rfl⟩, ⟨_, rfl, .ptr _ _ _ rfl⟩, ⟨_, rfl, .sl _ _ _ _ _ rfl⟩, ⟨_, rfl, .int _ _⟩, ⟨_, rfl, .int _ _⟩, trivial⟩
      ⟨⟨by decide, _, rfl, .same rfl⟩, ⟨by decide, _, rfl, .same rfl⟩, ⟨by decide, _, rfl, .same (flat_plain _ Pt.cell_plain ps)⟩, trivial⟩ (.fn _ _ _ _ _ _ _ (.cons _ _ _ _ (.ptr _ _ _ rfl) (.cons _ _ _ _ (.ptr _ _ _ rfl) .nil)) .nil .nil)) ?_
  rintro ⟨i, acc, s⟩ f ⟨hi, hs, hacc, heq⟩
  have hi : i ≤ ps.length := hi
  have hs : (bs s).length ≤ 1000000000 := hs
  have hacc : acc.length = i := hacc
  have heq : cuts ps (bs s0) = (cuts (ps.drop i) (bs s)).map fun y => (acc ++ y.1, y.2) := heq
  have hsB : shortB s = true := by unfold shortB; rw [bs_size]; exact Nat.ble_eq_true_of_le hs
  have side : ∀ (h1 : i < ps.length), (0 + ((i : Nat) : Int).toNat * 3 + 3 ≤ (ps.flatMap Pt.cell).length ∧ List.take 3 (List.drop (0 + ((i : Nat) : Int).toNat * 3) (ps.flatMap Pt.cell)) = ps[i].cell) := fun h1 => by
    have := flat_at Pt.cell 3 Pt.cell_len ps i h1
    rw [Int.toNat_natCast, Nat.zero_add]; exact this
  cases acc with
  | nil =>
    refine sx_ok (tbOf mixed [ct_partsAt t ps ht, ct_texts, ct_first]) [2] 0 _ none mixed _ _ _ ?_
    refine ifK (fun h1 => ?_) (fun h1 => ?_)
    · have h1 : i < ps.length := by have := of_decide_eq_true h1; omega
      have hst := cuts_step ps i h1 (bs s)
      have hsd := side h1
      refine ifK (fun _ => ?_) (fun h2 => absurd h2 (by simp [inI]; omega))
      cases hp : ps[i] with
      | nm =>
        rw [hp] at hst hsd
        refine Exists.intro 0 (Exists.intro true (Exists.intro false (And.intro hsd ?_)))
        refine And.intro hsB ?_
        refine ifK (fun h3 => ?_) (fun h3 => ?_)
        · obtain ⟨k, hk⟩ := Option.isSome_iff_exists.1 h3
          have hcut : Pt.nm.cut (bs s) = some k := hk
          have hkn : frontN (bs s) = k := by simp [frontN, hk]
          have hkl := front_le hk
          have hx : ((subS s 0 (frontN (bs s))).data.size : Int) = (k : Nat) := by rw [bs_size, bs_sub, hkn]; simp; omega
          refine And.intro (by kernel_rfl) ?_
          refine And.intro (by rw [hx]; simp only [inLH, bs_size, Bool.and_eq_true, decide_eq_true_eq] <;> omega) ?_
          refine And.intro (by rw [hx]; simp only [inLH, bs_size, Bool.and_eq_true, decide_eq_true_eq] <;> omega) ?_
          refine ⟨(i + 1, [] ++ [((bs s).take (k), true)], subS s (((subS s 0 (frontN (bs s))).data.size : Int)).toNat ((s.data.size : Int)).toNat), ⟨h1, ?_, ?_, ?_⟩, ?_, ?_⟩
          · show (bs (subS s _ _)).length ≤ _; rw [sub_rest s _ _ hx]; simp <;> omega
          · simp only [List.length_append, hacc]; rfl
          · show cuts ps (bs s0) = (cuts (ps.drop (i + 1)) (bs (subS s _ _))).map _; rw [sub_rest s _ _ hx, heq, hst, hcut]; simp only [Option.map_map]; exact congrArg (fun g => Option.map g _) (funext fun y => by simp [Pt.isName])
          · show ps.length - (i + 1) < ps.length - i; omega
          · refine rc_slots [0, 1, 2, 5] rfl rfl rfl (fun l e => by cases e) (by decide) (by decide) rfl rfl (fun k hk h => by omega) ⟨⟨_, rfl, .string _⟩, ⟨_, rfl, .ptr _ _ _ rfl⟩, ⟨_, rfl, .ptr _ _ _ rfl⟩, ⟨_, rfl, .sl _ _ _ _ _ rfl⟩, ⟨_, rfl, .int _ _⟩, slot_int rfl (by rw [wrapN (by omega) (by omega)]; omega), trivial⟩ ⟨⟨by decide, _, rfl, ?_⟩, ⟨by decide, _, rfl, .same rfl⟩, ⟨by decide, _, rfl, .same (flat_plain _ Pt.cell_plain ps)⟩, ⟨by decide, _, rfl, ?_⟩, trivial⟩ (.fn _ _ _ _ _ _ _ (.cons _ _ _ _ (.ptr _ _ _ rfl) (.cons _ _ _ _ (.ptr _ _ _ rfl) .nil)) .nil .nil)
            · exact ro_slice rfl
            · refine ro_eq ?_ (flat_plain pc pc_plain _)
              show [Value.string (subS s (Int.toNat 0) (((subS s 0 (frontN (bs s))).data.size : Int)).toNat), .bool true] = _
              rw [sub_take s _ _ hx]; rfl
        · have hcut : Pt.nm.cut (bs s) = none := by have : (front (bs s)).isSome = false := h3; simpa [Pt.cut] using this
          have hn : cuts ps (bs s0) = none := by rw [heq, hst, hcut]; rfl
          refine And.intro rfl (rc_end (rc_slots [0, 1] (d := 7) (d2 := 2) (lv := [(4, .pointer (some ⟨0, 0, none⟩)), (5, .pointer (some ⟨1, 0, none⟩))]) (bs := [(0, .cells [.slice none 0 0] 96), (1, .cells [.bool false] 4)]) (W := []) (m := 2) (df := [.call 80 [.pointer (some ⟨0, 0, none⟩), .pointer (some ⟨1, 0, none⟩)] []]) rfl rfl rfl (fun l e => by cases e) (by decide) (by decide) rfl rfl (fun k hk h => by omega) ⟨⟨_, rfl, .ptr _ _ _ rfl⟩, ⟨_, rfl, .ptr _ _ _ rfl⟩, trivial⟩ ⟨⟨by decide, _, rfl, .same rfl⟩, ⟨by decide, _, rfl, .same rfl⟩, trivial⟩ (.fn _ _ _ _ _ _ _ (.cons _ _ _ _ (.ptr _ _ _ rfl) (.cons _ _ _ _ (.ptr _ _ _ rfl) .nil)) .nil .nil)) (fun f2 => ?_))
          refine Eq.mpr (end_pan0 _ _ f2) ?_
          exact Exists.intro _ (Exists.intro _ (Exists.intro _ (Or.inr (And.intro hn rfl))))
      | rest =>
        rw [hp] at hst hsd
        refine Exists.intro 0 (Exists.intro false (Exists.intro true (And.intro hsd ?_)))
        refine And.intro hsB ?_
        refine ifK (fun h3 => ?_) (fun h3 => ?_)
        · have hcut : Pt.rest.cut (bs s) = some (bs s).length := by have h3 : texts (bs s) = true := h3; simp [Pt.cut, h3]
          have hx : (s.data.size : Int) = ((bs s).length : Nat) := by rw [bs_size]
          refine And.intro (by kernel_rfl) ?_
          refine And.intro (by rw [hx]; simp only [inLH, bs_size, Bool.and_eq_true, decide_eq_true_eq] <;> omega) ?_
          refine And.intro (by rw [hx]; simp only [inLH, bs_size, Bool.and_eq_true, decide_eq_true_eq] <;> omega) ?_
          refine ⟨(i + 1, [] ++ [((bs s).take ((bs s).length), false)], subS s ((s.data.size : Int)).toNat ((s.data.size : Int)).toNat), ⟨h1, ?_, ?_, ?_⟩, ?_, ?_⟩
          · show (bs (subS s _ _)).length ≤ _; rw [sub_rest s _ _ hx]; simp <;> omega
          · simp only [List.length_append, hacc]; rfl
          · show cuts ps (bs s0) = (cuts (ps.drop (i + 1)) (bs (subS s _ _))).map _; rw [sub_rest s _ _ hx, heq, hst, hcut]; simp only [Option.map_map]; exact congrArg (fun g => Option.map g _) (funext fun y => by simp [Pt.isName])
          · show ps.length - (i + 1) < ps.length - i; omega
          · refine rc_slots [0, 1, 2, 5] rfl rfl rfl (fun l e => by cases e) (by decide) (by decide) rfl rfl (fun k hk h => by omega) ⟨⟨_, rfl, .string _⟩, ⟨_, rfl, .ptr _ _ _ rfl⟩, ⟨_, rfl, .ptr _ _ _ rfl⟩, ⟨_, rfl, .sl _ _ _ _ _ rfl⟩, ⟨_, rfl, .int _ _⟩, slot_int rfl (by rw [wrapN (by omega) (by omega)]; omega), trivial⟩ ⟨⟨by decide, _, rfl, ?_⟩, ⟨by decide, _, rfl, .same rfl⟩, ⟨by decide, _, rfl, .same (flat_plain _ Pt.cell_plain ps)⟩, ⟨by decide, _, rfl, ?_⟩, trivial⟩ (.fn _ _ _ _ _ _ _ (.cons _ _ _ _ (.ptr _ _ _ rfl) (.cons _ _ _ _ (.ptr _ _ _ rfl) .nil)) .nil .nil)
            · exact ro_slice rfl
            · refine ro_eq ?_ (flat_plain pc pc_plain _)
              show [Value.string (subS s (Int.toNat 0) ((s.data.size : Int)).toNat), .bool false] = _
              rw [sub_take s _ _ hx]; rfl
        · have hcut : Pt.rest.cut (bs s) = none := by have h3 : texts (bs s) = false := h3; simp [Pt.cut, h3]
          have hn : cuts ps (bs s0) = none := by rw [heq, hst, hcut]; rfl
          refine And.intro rfl (rc_end (rc_slots [0, 1] (d := 7) (d2 := 2) (lv := [(4, .pointer (some ⟨0, 0, none⟩)), (5, .pointer (some ⟨1, 0, none⟩))]) (bs := [(0, .cells [.slice none 0 0] 96), (1, .cells [.bool false] 4)]) (W := []) (m := 2) (df := [.call 80 [.pointer (some ⟨0, 0, none⟩), .pointer (some ⟨1, 0, none⟩)] []]) rfl rfl rfl (fun l e => by cases e) (by decide) (by decide) rfl rfl (fun k hk h => by omega) ⟨⟨_, rfl, .ptr _ _ _ rfl⟩, ⟨_, rfl, .ptr _ _ _ rfl⟩, trivial⟩ ⟨⟨by decide, _, rfl, .same rfl⟩, ⟨by decide, _, rfl, .same rfl⟩, trivial⟩ (.fn _ _ _ _ _ _ _ (.cons _ _ _ _ (.ptr _ _ _ rfl) (.cons _ _ _ _ (.ptr _ _ _ rfl) .nil)) .nil .nil)) (fun f2 => ?_))
          refine Eq.mpr (end_pan0 _ _ f2) ?_
          exact Exists.intro _ (Exists.intro _ (Exists.intro _ (Or.inr (And.intro hn rfl))))
      | sz k =>
        rw [hp] at hst hsd
        refine Exists.intro (k : Int) (Exists.intro false (Exists.intro false (And.intro hsd ?_)))
        refine ifK (fun h3 => ?_) (fun h3 => ?_)
        · have h3 : ¬ k ≤ (bs s).length := by have := of_decide_eq_true h3; rw [bs_size] at this; omega
          have hcut : (Pt.sz k).cut (bs s) = none := by simp [Pt.cut, h3]
          have hn : cuts ps (bs s0) = none := by rw [heq, hst, hcut]; rfl
          refine And.intro rfl (rc_end (rc_slots [0, 1] (d := 7) (d2 := 2) (lv := [(4, .pointer (some ⟨0, 0, none⟩)), (5, .pointer (some ⟨1, 0, none⟩))]) (bs := [(0, .cells [.slice none 0 0] 96), (1, .cells [.bool false] 4)]) (W := []) (m := 2) (df := [.call 80 [.pointer (some ⟨0, 0, none⟩), .pointer (some ⟨1, 0, none⟩)] []]) rfl rfl rfl (fun l e => by cases e) (by decide) (by decide) rfl rfl (fun k hk h => by omega) ⟨⟨_, rfl, .ptr _ _ _ rfl⟩, ⟨_, rfl, .ptr _ _ _ rfl⟩, trivial⟩ ⟨⟨by decide, _, rfl, .same rfl⟩, ⟨by decide, _, rfl, .same rfl⟩, trivial⟩ (.fn _ _ _ _ _ _ _ (.cons _ _ _ _ (.ptr _ _ _ rfl) (.cons _ _ _ _ (.ptr _ _ _ rfl) .nil)) .nil .nil)) (fun f2 => ?_))
          refine Eq.mpr (end_pan0 _ _ f2) ?_
          exact Exists.intro _ (Exists.intro _ (Exists.intro _ (Or.inr (And.intro hn rfl))))
        · have h3 : k ≤ (bs s).length := by have := of_decide_eq_false h3; rw [bs_size] at this; omega
          have hcut : (Pt.sz k).cut (bs s) = some k := by simp [Pt.cut, h3]
          have hx : (k : Int) = (k : Nat) := rfl
          refine And.intro (by kernel_rfl) ?_
          refine And.intro (by rw [hx]; simp only [inLH, bs_size, Bool.and_eq_true, decide_eq_true_eq] <;> omega) ?_
          refine And.intro (by rw [hx]; simp only [inLH, bs_size, Bool.and_eq_true, decide_eq_true_eq] <;> omega) ?_
          refine ⟨(i + 1, [] ++ [((bs s).take (k), false)], subS s ((k : Int)).toNat ((s.data.size : Int)).toNat), ⟨h1, ?_, ?_, ?_⟩, ?_, ?_⟩
          · show (bs (subS s _ _)).length ≤ _; rw [sub_rest s _ _ hx]; simp <;> omega
          · simp only [List.length_append, hacc]; rfl
          · show cuts ps (bs s0) = (cuts (ps.drop (i + 1)) (bs (subS s _ _))).map _; rw [sub_rest s _ _ hx, heq, hst, hcut]; simp only [Option.map_map]; exact congrArg (fun g => Option.map g _) (funext fun y => by simp [Pt.isName])
          · show ps.length - (i + 1) < ps.length - i; omega
          · refine rc_slots [0, 1, 2, 5] rfl rfl rfl (fun l e => by cases e) (by decide) (by decide) rfl rfl (fun k hk h => by omega) ⟨⟨_, rfl, .string _⟩, ⟨_, rfl, .ptr _ _ _ rfl⟩, ⟨_, rfl, .ptr _ _ _ rfl⟩, ⟨_, rfl, .sl _ _ _ _ _ rfl⟩, ⟨_, rfl, .int _ _⟩, slot_int rfl (by rw [wrapN (by omega) (by omega)]; omega), trivial⟩ ⟨⟨by decide, _, rfl, ?_⟩, ⟨by decide, _, rfl, .same rfl⟩, ⟨by decide, _, rfl, .same (flat_plain _ Pt.cell_plain ps)⟩, ⟨by decide, _, rfl, ?_⟩, trivial⟩ (.fn _ _ _ _ _ _ _ (.cons _ _ _ _ (.ptr _ _ _ rfl) (.cons _ _ _ _ (.ptr _ _ _ rfl) .nil)) .nil .nil)
            · exact ro_slice rfl
            · refine ro_eq ?_ (flat_plain pc pc_plain _)
              show [Value.string (subS s (Int.toNat 0) ((k : Int)).toNat), .bool false] = _
              rw [sub_take s _ _ hx]; rfl
    · have h1 : ¬ i < ps.length := by have := of_decide_eq_false h1; omega
      exact absurd hacc (by simp; omega)
  | cons a l =>
    refine sx_ok (tbOf mixed [ct_partsAt t ps ht, ct_texts, ct_first]) [2, 3] 0 _ none mixed _ _ _ ?_
    refine ifK (fun h1 => ?_) (fun h1 => ?_)
    · have h1 : i < ps.length := by have := of_decide_eq_true h1; omega
      have hst := cuts_step ps i h1 (bs s)
      have hsd := side h1
      refine ifK (fun _ => ?_) (fun h2 => absurd h2 (by simp [inI]; omega))
      cases hp : ps[i] with
      | nm =>
        rw [hp] at hst hsd
        refine Exists.intro 0 (Exists.intro true (Exists.intro false (And.intro hsd ?_)))
        refine And.intro hsB ?_
        refine ifK (fun h3 => ?_) (fun h3 => ?_)
        · obtain ⟨k, hk⟩ := Option.isSome_iff_exists.1 h3
          have hcut : Pt.nm.cut (bs s) = some k := hk
          have hkn : frontN (bs s) = k := by simp [frontN, hk]
          have hkl := front_le hk
          have hx : ((subS s 0 (frontN (bs s))).data.size : Int) = (k : Nat) := by rw [bs_size, bs_sub, hkn]; simp; omega
          refine And.intro (by kernel_rfl) ?_
          refine And.intro (by rw [hx]; simp only [inLH, bs_size, Bool.and_eq_true, decide_eq_true_eq] <;> omega) ?_
          refine And.intro (by rw [flat_length pc 2 pc_len]; have hT : (Try.prog.types[110]).size = 2 := (by kernel_rfl); have hB : (Try.prog.types[110]).bytes = 24 := (by kernel_rfl); have hl : l.length + 1 = i := hacc; simp [oneL, Value.oneCell', hT, hB]; omega) ?_
          refine And.intro (by rw [hx]; simp only [inLH, bs_size, Bool.and_eq_true, decide_eq_true_eq] <;> omega) ?_
          refine ⟨(i + 1, (a :: l) ++ [((bs s).take (k), true)], subS s (((subS s 0 (frontN (bs s))).data.size : Int)).toNat ((s.data.size : Int)).toNat), ⟨h1, ?_, ?_, ?_⟩, ?_, ?_⟩
          · show (bs (subS s _ _)).length ≤ _; rw [sub_rest s _ _ hx]; simp <;> omega
          · simp only [List.length_append, hacc]; rfl
          · show cuts ps (bs s0) = (cuts (ps.drop (i + 1)) (bs (subS s _ _))).map _; rw [sub_rest s _ _ hx, heq, hst, hcut]; simp only [Option.map_map]; exact congrArg (fun g => Option.map g _) (funext fun y => by simp [Pt.isName])
          · show ps.length - (i + 1) < ps.length - i; omega
          · refine rc_slots [0, 1, 2, 6] rfl rfl rfl (fun l e => by cases e) (by decide) (by decide) rfl rfl (fun k hk h => by omega) ⟨⟨_, rfl, .string _⟩, ⟨_, rfl, .ptr _ _ _ rfl⟩, ⟨_, rfl, .ptr _ _ _ rfl⟩, ⟨_, rfl, .sl _ _ _ _ _ rfl⟩, ⟨_, rfl, .int _ _⟩, slot_int rfl (by rw [wrapN (by omega) (by omega)]; omega), trivial⟩ ⟨⟨by decide, _, rfl, ?_⟩, ⟨by decide, _, rfl, .same rfl⟩, ⟨by decide, _, rfl, .same (flat_plain _ Pt.cell_plain ps)⟩, ⟨by decide, _, rfl, ?_⟩, trivial⟩ (.fn _ _ _ _ _ _ _ (.cons _ _ _ _ (.ptr _ _ _ rfl) (.cons _ _ _ _ (.ptr _ _ _ rfl) .nil)) .nil .nil)
            · have : (l ++ [((bs s).take (k), true)]).length = l.length + 1 := by simp
              show RO _ _ _ (.cells [.slice _ ((l ++ [_]).length + 1) U] _)
              rw [this]
              exact ro_slice rfl
            · refine ro_eq ?_ (flat_plain pc pc_plain _)
              show List.take ((l.length + 1) * 2) ((a :: l).flatMap pc) ++ [Value.string (subS s (Int.toNat 0) (((subS s 0 (frontN (bs s))).data.size : Int)).toNat), .bool true] = _
              rw [sub_take s _ _ hx, List.take_of_length_le (by rw [flat_length pc 2 pc_len]; simp)]
              show _ = ((a :: l) ++ [_]).flatMap pc
              rw [flat_snoc]; rfl
        · have hcut : Pt.nm.cut (bs s) = none := by have : (front (bs s)).isSome = false := h3; simpa [Pt.cut] using this
          have hn : cuts ps (bs s0) = none := by rw [heq, hst, hcut]; rfl
          refine And.intro rfl (rc_end (rc_slots [0, 1, 3] (d := 7) (d2 := 2) (lv := [(4, .pointer (some ⟨0, 0, none⟩)), (5, .pointer (some ⟨1, 0, none⟩))]) (bs := [(0, .cells [.slice (some ⟨2, 0, none⟩) (l.length + 1) U] 96), (1, .cells [.bool false] 4)]) (W := []) (m := 3) (df := [.call 80 [.pointer (some ⟨0, 0, none⟩), .pointer (some ⟨1, 0, none⟩)] []]) rfl rfl rfl (fun l e => by cases e) (by decide) (by decide) rfl rfl (fun k hk h => by omega) ⟨⟨_, rfl, .ptr _ _ _ rfl⟩, ⟨_, rfl, .ptr _ _ _ rfl⟩, trivial⟩ ⟨⟨by decide, _, rfl, ro_slice rfl⟩, ⟨by decide, _, rfl, .same rfl⟩, trivial⟩ (.fn _ _ _ _ _ _ _ (.cons _ _ _ _ (.ptr _ _ _ rfl) (.cons _ _ _ _ (.ptr _ _ _ rfl) .nil)) .nil .nil)) (fun f2 => ?_))
          refine Eq.mpr (end_pan1 _ _ l.length f2) ?_
          exact Exists.intro _ (Exists.intro _ (Exists.intro _ (Or.inr (And.intro hn rfl))))
      | rest =>
        rw [hp] at hst hsd
        refine Exists.intro 0 (Exists.intro false (Exists.intro true (And.intro hsd ?_)))
        refine And.intro hsB ?_
        refine ifK (fun h3 => ?_) (fun h3 => ?_)
        · have hcut : Pt.rest.cut (bs s) = some (bs s).length := by have h3 : texts (bs s) = true := h3; simp [Pt.cut, h3]
          have hx : (s.data.size : Int) = ((bs s).length : Nat) := by rw [bs_size]
          refine And.intro (by kernel_rfl) ?_
          refine And.intro (by rw [hx]; simp only [inLH, bs_size, Bool.and_eq_true, decide_eq_true_eq] <;> omega) ?_
          refine And.intro (by rw [flat_length pc 2 pc_len]; have hT : (Try.prog.types[110]).size = 2 := (by kernel_rfl); have hB : (Try.prog.types[110]).bytes = 24 := (by kernel_rfl); have hl : l.length + 1 = i := hacc; simp [oneL, Value.oneCell', hT, hB]; omega) ?_
          refine And.intro (by rw [hx]; simp only [inLH, bs_size, Bool.and_eq_true, decide_eq_true_eq] <;> omega) ?_
          refine ⟨(i + 1, (a :: l) ++ [((bs s).take ((bs s).length), false)], subS s ((s.data.size : Int)).toNat ((s.data.size : Int)).toNat), ⟨h1, ?_, ?_, ?_⟩, ?_, ?_⟩
          · show (bs (subS s _ _)).length ≤ _; rw [sub_rest s _ _ hx]; simp <;> omega
          · simp only [List.length_append, hacc]; rfl
          · show cuts ps (bs s0) = (cuts (ps.drop (i + 1)) (bs (subS s _ _))).map _; rw [sub_rest s _ _ hx, heq, hst, hcut]; simp only [Option.map_map]; exact congrArg (fun g => Option.map g _) (funext fun y => by simp [Pt.isName])
          · show ps.length - (i + 1) < ps.length - i; omega
          · refine rc_slots [0, 1, 2, 6] rfl rfl rfl (fun l e => by cases e) (by decide) (by decide) rfl rfl (fun k hk h => by omega) ⟨⟨_, rfl, .string _⟩, ⟨_, rfl, .ptr _ _ _ rfl⟩, ⟨_, rfl, .ptr _ _ _ rfl⟩, ⟨_, rfl, .sl _ _ _ _ _ rfl⟩, ⟨_, rfl, .int _ _⟩, slot_int rfl (by rw [wrapN (by omega) (by omega)]; omega), trivial⟩ ⟨⟨by decide, _, rfl, ?_⟩, ⟨by decide, _, rfl, .same rfl⟩, ⟨by decide, _, rfl, .same (flat_plain _ Pt.cell_plain ps)⟩, ⟨by decide, _, rfl, ?_⟩, trivial⟩ (.fn _ _ _ _ _ _ _ (.cons _ _ _ _ (.ptr _ _ _ rfl) (.cons _ _ _ _ (.ptr _ _ _ rfl) .nil)) .nil .nil)
            · have : (l ++ [((bs s).take ((bs s).length), false)]).length = l.length + 1 := by simp
              show RO _ _ _ (.cells [.slice _ ((l ++ [_]).length + 1) U] _)
              rw [this]
              exact ro_slice rfl
            · refine ro_eq ?_ (flat_plain pc pc_plain _)
              show List.take ((l.length + 1) * 2) ((a :: l).flatMap pc) ++ [Value.string (subS s (Int.toNat 0) ((s.data.size : Int)).toNat), .bool false] = _
              rw [sub_take s _ _ hx, List.take_of_length_le (by rw [flat_length pc 2 pc_len]; simp)]
              show _ = ((a :: l) ++ [_]).flatMap pc
              rw [flat_snoc]; rfl
        · have hcut : Pt.rest.cut (bs s) = none := by have h3 : texts (bs s) = false := h3; simp [Pt.cut, h3]
          have hn : cuts ps (bs s0) = none := by rw [heq, hst, hcut]; rfl
          refine And.intro rfl (rc_end (rc_slots [0, 1, 3] (d := 7) (d2 := 2) (lv := [(4, .pointer (some ⟨0, 0, none⟩)), (5, .pointer (some ⟨1, 0, none⟩))]) (bs := [(0, .cells [.slice (some ⟨2, 0, none⟩) (l.length + 1) U] 96), (1, .cells [.bool false] 4)]) (W := []) (m := 3) (df := [.call 80 [.pointer (some ⟨0, 0, none⟩), .pointer (some ⟨1, 0, none⟩)] []]) rfl rfl rfl (fun l e => by cases e) (by decide) (by decide) rfl rfl (fun k hk h => by omega) ⟨⟨_, rfl, .ptr _ _ _ rfl⟩, ⟨_, rfl, .ptr _ _ _ rfl⟩, trivial⟩ ⟨⟨by decide, _, rfl, ro_slice rfl⟩, ⟨by decide, _, rfl, .same rfl⟩, trivial⟩ (.fn _ _ _ _ _ _ _ (.cons _ _ _ _ (.ptr _ _ _ rfl) (.cons _ _ _ _ (.ptr _ _ _ rfl) .nil)) .nil .nil)) (fun f2 => ?_))
          refine Eq.mpr (end_pan1 _ _ l.length f2) ?_
          exact Exists.intro _ (Exists.intro _ (Exists.intro _ (Or.inr (And.intro hn rfl))))
      | sz k =>
        rw [hp] at hst hsd
        refine Exists.intro (k : Int) (Exists.intro false (Exists.intro false (And.intro hsd ?_)))
        refine ifK (fun h3 => ?_) (fun h3 => ?_)
        · have h3 : ¬ k ≤ (bs s).length := by have := of_decide_eq_true h3; rw [bs_size] at this; omega
          have hcut : (Pt.sz k).cut (bs s) = none := by simp [Pt.cut, h3]
          have hn : cuts ps (bs s0) = none := by rw [heq, hst, hcut]; rfl
          refine And.intro rfl (rc_end (rc_slots [0, 1, 3] (d := 7) (d2 := 2) (lv := [(4, .pointer (some ⟨0, 0, none⟩)), (5, .pointer (some ⟨1, 0, none⟩))]) (bs := [(0, .cells [.slice (some ⟨2, 0, none⟩) (l.length + 1) U] 96), (1, .cells [.bool false] 4)]) (W := []) (m := 3) (df := [.call 80 [.pointer (some ⟨0, 0, none⟩), .pointer (some ⟨1, 0, none⟩)] []]) rfl rfl rfl (fun l e => by cases e) (by decide) (by decide) rfl rfl (fun k hk h => by omega) ⟨⟨_, rfl, .ptr _ _ _ rfl⟩, ⟨_, rfl, .ptr _ _ _ rfl⟩, trivial⟩ ⟨⟨by decide, _, rfl, ro_slice rfl⟩, ⟨by decide, _, rfl, .same rfl⟩, trivial⟩ (.fn _ _ _ _ _ _ _ (.cons _ _ _ _ (.ptr _ _ _ rfl) (.cons _ _ _ _ (.ptr _ _ _ rfl) .nil)) .nil .nil)) (fun f2 => ?_))
          refine Eq.mpr (end_pan1 _ _ l.length f2) ?_
          exact Exists.intro _ (Exists.intro _ (Exists.intro _ (Or.inr (And.intro hn rfl))))
        · have h3 : k ≤ (bs s).length := by have := of_decide_eq_false h3; rw [bs_size] at this; omega
          have hcut : (Pt.sz k).cut (bs s) = some k := by simp [Pt.cut, h3]
          have hx : (k : Int) = (k : Nat) := rfl
          refine And.intro (by kernel_rfl) ?_
          refine And.intro (by rw [hx]; simp only [inLH, bs_size, Bool.and_eq_true, decide_eq_true_eq] <;> omega) ?_
          refine And.intro (by rw [flat_length pc 2 pc_len]; have hT : (Try.prog.types[110]).size = 2 := (by kernel_rfl); have hB : (Try.prog.types[110]).bytes = 24 := (by kernel_rfl); have hl : l.length + 1 = i := hacc; simp [oneL, Value.oneCell', hT, hB]; omega) ?_
          refine And.intro (by rw [hx]; simp only [inLH, bs_size, Bool.and_eq_true, decide_eq_true_eq] <;> omega) ?_
          refine ⟨(i + 1, (a :: l) ++ [((bs s).take (k), false)], subS s ((k : Int)).toNat ((s.data.size : Int)).toNat), ⟨h1, ?_, ?_, ?_⟩, ?_, ?_⟩
          · show (bs (subS s _ _)).length ≤ _; rw [sub_rest s _ _ hx]; simp <;> omega
          · simp only [List.length_append, hacc]; rfl
          · show cuts ps (bs s0) = (cuts (ps.drop (i + 1)) (bs (subS s _ _))).map _; rw [sub_rest s _ _ hx, heq, hst, hcut]; simp only [Option.map_map]; exact congrArg (fun g => Option.map g _) (funext fun y => by simp [Pt.isName])
          · show ps.length - (i + 1) < ps.length - i; omega
          · refine rc_slots [0, 1, 2, 6] rfl rfl rfl (fun l e => by cases e) (by decide) (by decide) rfl rfl (fun k hk h => by omega) ⟨⟨_, rfl, .string _⟩, ⟨_, rfl, .ptr _ _ _ rfl⟩, ⟨_, rfl, .ptr _ _ _ rfl⟩, ⟨_, rfl, .sl _ _ _ _ _ rfl⟩, ⟨_, rfl, .int _ _⟩, slot_int rfl (by rw [wrapN (by omega) (by omega)]; omega), trivial⟩ ⟨⟨by decide, _, rfl, ?_⟩, ⟨by decide, _, rfl, .same rfl⟩, ⟨by decide, _, rfl, .same (flat_plain _ Pt.cell_plain ps)⟩, ⟨by decide, _, rfl, ?_⟩, trivial⟩ (.fn _ _ _ _ _ _ _ (.cons _ _ _ _ (.ptr _ _ _ rfl) (.cons _ _ _ _ (.ptr _ _ _ rfl) .nil)) .nil .nil)
            · have : (l ++ [((bs s).take (k), false)]).length = l.length + 1 := by simp
              show RO _ _ _ (.cells [.slice _ ((l ++ [_]).length + 1) U] _)
              rw [this]
              exact ro_slice rfl
            · refine ro_eq ?_ (flat_plain pc pc_plain _)
              show List.take ((l.length + 1) * 2) ((a :: l).flatMap pc) ++ [Value.string (subS s (Int.toNat 0) ((k : Int)).toNat), .bool false] = _
              rw [sub_take s _ _ hx, List.take_of_length_le (by rw [flat_length pc 2 pc_len]; simp)]
              show _ = ((a :: l) ++ [_]).flatMap pc
              rw [flat_snoc]; rfl
    · have h1 : ¬ i < ps.length := by have := of_decide_eq_false h1; omega
      have hc : cuts ps (bs s0) = some (a :: l, bs s) := by rw [heq, List.drop_eq_nil_of_le (by omega)]; simp [cuts]
      refine And.intro rfl ?_
      refine (rc_end (rc_slots [0, 1, 3] (d := 7) (d2 := 2) (lv := [(4, .pointer (some ⟨0, 0, none⟩)), (5, .pointer (some ⟨1, 0, none⟩))]) (bs := [(0, .cells [.slice (some ⟨2, 0, none⟩) (l.length + 1) U] 96), (1, .cells [.bool (s.data.toList == [])] 4), (2, .cells ((a :: l).flatMap pc) 110)]) (W := []) (m := 3) (df := [.call 80 [.pointer (some ⟨0, 0, none⟩), .pointer (some ⟨1, 0, none⟩)] []]) rfl rfl rfl (fun l e => by cases e) (by decide) (by decide) rfl rfl (fun k hk h => by omega) ⟨⟨_, rfl, .ptr _ _ _ rfl⟩, ⟨_, rfl, .ptr _ _ _ rfl⟩, trivial⟩ ⟨⟨by decide, _, rfl, ro_slice rfl⟩, ⟨by decide, _, rfl, .same rfl⟩, ⟨by decide, _, rfl, .same (flat_plain pc pc_plain _)⟩, trivial⟩ (.fn _ _ _ _ _ _ _ (.cons _ _ _ _ (.ptr _ _ _ rfl) (.cons _ _ _ _ (.ptr _ _ _ rfl) .nil)) .nil .nil)) (fun f2 => ?_))
      refine Eq.mpr (end_ret _ _ l.length (s.data.toList == []) ((a :: l).flatMap pc) f2) ?_
      have hem : (bs s).isEmpty = (s.data.toList == []) := by show _ = (bs s == []); cases bs s <;> rfl
      refine ⟨?zH, ?zm, ?zw, Or.inl ⟨a :: l, bs s, 2, hc, ?zg, ?zh, by decide⟩⟩
      case zg => rw [hem]; exact rfl
      case zh => exact end_ret_get _ _ _ _ _
end Go.Proofs.Ytmpaeabkdhjamaa
/- DERIVED. What is known of the document's names, as contracts. -/
namespace Go.Proofs.Ytmpaeabkdhjamaa
open Go Go.RowKit
def ct_rcheck : Ct Try.prog 0 := Ct.str1 35 (fun s => .int .i64 (labels (bs s)).2) (fun _ => rfl) (fun s w hs => by have := refCheck_any (bs s) w hs; rwa [str_bs] at this)
def ct_rlower : Ct Try.prog 0 := Ct.str1 65 (fun s => str (lower (bs s))) (fun _ => rfl) (fun s w hs => by have := refLower_any (bs s) w hs; rwa [str_bs] at this)
end Go.Proofs.Ytmpaeabkdhjamaa
/- DERIVED. Data: split as a contract. -/
namespace Go.Proofs.Ytmpaeabkdhjamaa
open Go Go.RowKit

/-- The parts of a type that is known. -/
def ptsT (t : Int) : Option (List Pt) :=
  bif t == 1 then some [.sz 4] else bif t == 28 then some [.sz 16] else bif t == 2 then some [.nm] else bif t == 5 then some [.nm] else bif t == 12 then some [.nm] else bif t == 15 then some [.sz 2, .nm]
  else bif t == 6 then some [.nm, .nm, .sz 20] else bif t == 16 then some [.rest] else none
theorem ptsT_some {t : Int} {ps : List Pt} (h : ptsT t = some ps) : 0 < ps.length ∧ ps.length < 1000 ∧ ∀ H n, partsGo t H n partsTab = partsOut ps.length (ps.flatMap Pt.cell) H n := by
  unfold ptsT at h
  unfold partsTab
  simp only [partsGo]
  cases h1 : (t == 1) with
  | true => rw [h1] at h; cases h; exact ⟨by decide, by decide, fun _ _ => rfl⟩
  | false =>
  cases h2 : (t == 28) with
  | true => rw [h1, h2] at h; cases h; exact ⟨by decide, by decide, fun _ _ => rfl⟩
  | false =>
  cases h3 : (t == 2) with
  | true => rw [h1, h2, h3] at h; cases h; exact ⟨by decide, by decide, fun _ _ => rfl⟩
  | false =>
  cases h4 : (t == 5) with
  | true => rw [h1, h2, h3, h4] at h; cases h; exact ⟨by decide, by decide, fun _ _ => rfl⟩
  | false =>
  cases h5 : (t == 12) with
  | true => rw [h1, h2, h3, h4, h5] at h; cases h; exact ⟨by decide, by decide, fun _ _ => rfl⟩
  | false =>
  cases h6 : (t == 15) with
  | true => rw [h1, h2, h3, h4, h5, h6] at h; cases h; exact ⟨by decide, by decide, fun _ _ => rfl⟩
  | false =>
  cases h7 : (t == 6) with
  | true => rw [h1, h2, h3, h4, h5, h6, h7] at h; cases h; exact ⟨by decide, by decide, fun _ _ => rfl⟩
  | false =>
  cases h8 : (t == 16) with
  | true => rw [h1, h2, h3, h4, h5, h6, h7, h8] at h; cases h; exact ⟨by decide, by decide, fun _ _ => rfl⟩
  | false => rw [h1, h2, h3, h4, h5, h6, h7, h8] at h; cases h
theorem ptsT_none {t : Int} (h : ptsT t = none) : ∀ H n, partsGo t H n partsTab = .ret (.tuple #[.slice none 0 0, .bool false]) H n [] := by
  unfold ptsT at h
  unfold partsTab
  simp only [partsGo]
  cases h1 : (t == 1) with
  | true => rw [h1] at h; cases h
  | false =>
  cases h2 : (t == 28) with
  | true => rw [h1, h2] at h; cases h
  | false =>
  cases h3 : (t == 2) with
  | true => rw [h1, h2, h3] at h; cases h
  | false =>
  cases h4 : (t == 5) with
  | true => rw [h1, h2, h3, h4] at h; cases h
  | false =>
  cases h5 : (t == 12) with
  | true => rw [h1, h2, h3, h4, h5] at h; cases h
  | false =>
  cases h6 : (t == 15) with
  | true => rw [h1, h2, h3, h4, h5, h6] at h; cases h
  | false =>
  cases h7 : (t == 6) with
  | true => rw [h1, h2, h3, h4, h5, h6, h7] at h; cases h
  | false =>
  cases h8 : (t == 16) with
  | true => rw [h1, h2, h3, h4, h5, h6, h7, h8] at h; cases h
  | false => exact fun _ _ => rfl

/-- The contract of 'parts' for a type that is not known. -/
def ct_partsNo (t : Int) (h : ∀ H n, partsGo t H n partsTab = .ret (.tuple #[.slice none 0 0, .bool false]) H n []) : Ct Try.prog 0 where
  f := 75
  res l H n := match l with | [.int .i64 t'] => bif t' == t then .ret (.tuple #[.slice none 0 0, .bool false]) H n [] else .bad "type" [] | _ => .bad "arguments" []
  ok l H n := by
    split
    · rename_i t'
      cases hb : (t' == t) with
      | false => trivial
      | true =>
        have hb : t' = t := by simpa using hb
        subst hb
        have := parts_ok t' H n
        rw [h] at this
        exact this
    · trivial
  ck l H n K := match l with | [.int .i64 t'] => (t' == t) = true ∧ K (.ret (.tuple #[.slice none 0 0, .bool false]) H n []) | _ => False
  imp l H n K h := by
    split at h
    · obtain ⟨h1, h2⟩ := h
      simp only [h1, cond_true]; exact h2
    · exact h.elim

set_option maxRecDepth 1000000 in
theorem splitNo_fn (t : Int) (ht : ∀ H n, partsGo t H n partsTab = .ret (.tuple #[.slice none 0 0, .bool false]) H n []) (s : ByteArray) :
    ∃ r, FnS Try.prog 0 60 [.int .i64 t, .string s] .e 0 r ∧ ∃ H m wr b, r = .ret (.tuple #[.slice (some ⟨b, 0, none⟩) 1 1, .bool true]) H m wr ∧ H.get b = some (.cells [.string s, .bool false] 110) ∧ b < JJ := by
  refine fn_sx mixed (tbOf mixed [ct_partsNo t ht]) [] Try.func60 (c := bodyOf Try.f60) (by kernel_rfl) ?_
  refine And.intro (by simp) ?_
  exact ⟨_, _, _, _, rfl, rfl, by decide⟩
end Go.Proofs.Ytmpaeabkdhjamaa
/- DERIVED. Data: split's contract; Check. -/
namespace Go.Proofs.Ytmpaeabkdhjamaa
open Go Go.RowKit

/-- What split tells of data of a type that is known. -/
def outT (t : Int) (l : Bs) : Option (List (Bs × Bool) × Bs) := match ptsT t with | some ps => cuts ps l | none => none
def outP (t : Int) (l : Bs) : List (Bs × Bool) := match outT t l with | some x => x.1 | none => []
def outR (t : Int) (l : Bs) : Bs := match outT t l with | some x => x.2 | none => []

theorem callOK_split (t : Int) (s : ByteArray) (hs : (bs s).length ≤ 1000000000) (H : Tr AObj) (n : Nat) :
    (ptsT t = none → CallOK Try.prog 0 60 [.int .i64 t, .string s] H n (.ret (.tuple #[.slice (some ⟨n, 0, none⟩) 1 1, .bool true]) (H.set n (some (.cells [.string s, .bool false] 110))) (n + 1) [])) ∧
    ((ptsT t).isSome = true → (outT t (bs s)).isSome = true → CallOK Try.prog 0 60 [.int .i64 t, .string s] H n (.ret (.tuple #[.slice (some ⟨n, 0, none⟩) (outP t (bs s)).length U, .bool (outR t (bs s)).isEmpty]) (H.set n (some (.cells ((outP t (bs s)).flatMap pc) 110))) (n + 1) [])) ∧
    ((ptsT t).isSome = true → (outT t (bs s)).isSome = false → CallOK Try.prog 0 60 [.int .i64 t, .string s] H n (.ret (.tuple #[.slice none 0 0, .bool false]) H n [])) := by
  refine ⟨fun h => ?_, fun h1 h2 => ?_, fun h1 h2 => ?_⟩
  · obtain ⟨r, hF, H', m, wr, b, rfl, hb, hJ⟩ := splitNo_fn t (ptsT_none h) s
    exact callOK_fresh1 (fun n => .tuple #[.slice (some ⟨n, 0, none⟩) 1 1, .bool true]) hF rfl hb hJ rfl (fun n => .tuple _ _ (.cons _ _ _ _ (.sl _ _ _ _ _ (tau_one _ _)) (.cons _ _ _ _ (.bool _) .nil))) H n
  · obtain ⟨ps, hp⟩ := Option.isSome_iff_exists.1 h1
    obtain ⟨p1, p2, p3⟩ := ptsT_some hp
    obtain ⟨⟨out, rest⟩, ho⟩ := Option.isSome_iff_exists.1 h2
    have hc : cuts ps (bs s) = some (out, rest) := by unfold outT at ho; rw [hp] at ho; exact ho
    have e1 : outP t (bs s) = out := by unfold outP; rw [ho]
    have e2 : outR t (bs s) = rest := by unfold outR; rw [ho]
    obtain ⟨r, hF, H', m, wr, ⟨out', rest', b, q1, rfl, q3, q4⟩ | ⟨q1, _⟩⟩ := split_fn t ps p1 p2 p3 s hs
    · rw [hc] at q1; cases q1
      rw [e1, e2]
      exact callOK_fresh1 (fun n => .tuple #[.slice (some ⟨n, 0, none⟩) out.length U, .bool rest.isEmpty]) hF rfl q3 q4 (flat_plain pc pc_plain _) (fun n => .tuple _ _ (.cons _ _ _ _ (.sl _ _ _ _ _ (tau_one _ _)) (.cons _ _ _ _ (.bool _) .nil))) H n
    · rw [hc] at q1; cases q1
  · obtain ⟨ps, hp⟩ := Option.isSome_iff_exists.1 h1
    obtain ⟨p1, p2, p3⟩ := ptsT_some hp
    have hc : cuts ps (bs s) = none := by unfold outT at h2; rw [hp] at h2; simpa using h2
    obtain ⟨r, hF, H', m, wr, ⟨out', rest', b, q1, _⟩ | ⟨_, rfl⟩⟩ := split_fn t ps p1 p2 p3 s hs
    · rw [hc] at q1; cases q1
    · exact callOK_pure hF rfl rfl H n

def ct_split : Ct Try.prog 0 where
  f := 60
  res l H n := match l with
    | [.int .i64 t, .string s] => bif shortB s then (bif (ptsT t).isSome then (bif (outT t (bs s)).isSome then .ret (.tuple #[.slice (some ⟨n, 0, none⟩) (outP t (bs s)).length U, .bool (outR t (bs s)).isEmpty]) (H.set n (some (.cells ((outP t (bs s)).flatMap pc) 110))) (n + 1) [] else .ret (.tuple #[.slice none 0 0, .bool false]) H n [])
        else .ret (.tuple #[.slice (some ⟨n, 0, none⟩) 1 1, .bool true]) (H.set n (some (.cells [.string s, .bool false] 110))) (n + 1) []) else .bad "long" []
    | _ => .bad "arguments" []
  ok l H n := by
    split
    · rename_i t s
      cases hs : shortB s with
      | false => trivial
      | true =>
        obtain ⟨c1, c2, c3⟩ := callOK_split t s (short_len hs) H n
        cases h1 : (ptsT t).isSome with
        | false => exact c1 (by simpa using h1)
        | true =>
          cases h2 : (outT t (bs s)).isSome with
          | true => exact c2 h1 h2
          | false => exact c3 h1 h2
    · trivial
  ck l H n K := match l with
    | [.int .i64 t, .string s] => shortB s = true ∧ brK (ptsT t).isSome (brK (outT t (bs s)).isSome (K (.ret (.tuple #[.slice (some ⟨n, 0, none⟩) (outP t (bs s)).length U, .bool (outR t (bs s)).isEmpty]) (H.set n (some (.cells ((outP t (bs s)).flatMap pc) 110))) (n + 1) [])) (K (.ret (.tuple #[.slice none 0 0, .bool false]) H n [])))
        (K (.ret (.tuple #[.slice (some ⟨n, 0, none⟩) 1 1, .bool true]) (H.set n (some (.cells [.string s, .bool false] 110))) (n + 1) []))
    | _ => False
  imp l H n K h := by
    split at h
    · rename_i t s
      obtain ⟨h0, h⟩ := h
      simp only [h0, cond_true]
      cases h1 : (ptsT t).isSome with
      | false => rw [h1] at h; exact h
      | true =>
        rw [h1] at h
        cases h2 : (outT t (bs s)).isSome with
        | true => rw [h2] at h; exact h
        | false => rw [h2] at h; exact h
    · exact h.elim

/-- Are data those of a type? -/
def fitsD (t : Int) (l : Bs) : Bool := bif (ptsT t).isSome then (outT t l).isSome && (outR t l).isEmpty else true
/-- What Check tells. -/
def checkD (t : Int) (l : Bs) : Int := if t < 0 ∨ 65535 < t then 5 else if 65535 < l.length then 3 else if fitsD t l then 0 else 4

noncomputable def tbE2 : Tb Try.prog 0 := tbOf mixed [ct_split]
set_option maxRecDepth 100000 in
theorem check_fn (t : Int) (s : ByteArray) (hs : (bs s).length ≤ 1000000000) : ∃ r, FnS Try.prog 0 34 [.int .i64 t, .string s] .e 0 r ∧ ∃ H m wr, r = .ret (.int .i64 (checkD t (bs s))) H m wr := by
  have hsB : shortB s = true := by unfold shortB; rw [bs_size]; exact Nat.ble_eq_true_of_le hs
  refine fn_sx mixed tbE2 [] Try.func34 (c := bodyOf Try.f34) (by kernel_rfl) ?_
  unfold checkD fitsD
  refine ifK (fun h1 => ?_) (fun h1 => ?_)
  · rw [if_pos (.inl (of_decide_eq_true h1))]; exact ⟨_, _, _, rfl⟩
  have h1 := of_decide_eq_false h1
  refine ifK (fun h2 => ?_) (fun h2 => ?_)
  · rw [if_pos (.inr (of_decide_eq_true h2))]; exact ⟨_, _, _, rfl⟩
  have h2 := of_decide_eq_false h2
  rw [if_neg (by omega)]
  refine ifK (fun h3 => ?_) (fun h3 => ?_)
  · have h3 := of_decide_eq_true h3
    rw [bs_size] at h3
    rw [if_pos (by omega)]; exact ⟨_, _, _, rfl⟩
  have h3 := of_decide_eq_false h3
  rw [bs_size] at h3
  rw [if_neg (by omega)]
  refine And.intro hsB ?_
  refine ifK (fun h4 => ?_) (fun h4 => ?_)
  · rw [h4]
    refine ifK (fun h5 => ?_) (fun h5 => ?_)
    · rw [h5]
      refine ifK (fun h6 => ?_) (fun h6 => ?_)
      · rw [show (outR t (bs s)).isEmpty = false by simpa using h6]; exact ⟨_, _, _, rfl⟩
      · rw [show (outR t (bs s)).isEmpty = true by simpa using h6]; exact ⟨_, _, _, rfl⟩
    · rw [h5]; exact ⟨_, _, _, rfl⟩
  · rw [h4]; exact ⟨_, _, _, rfl⟩

/-- A function of a number and a string that was walked. -/
def Ct.intStr (f : FuncId) (out : Int → ByteArray → Value) (hp : ∀ t s, plainV 8 (out t s) = true) (ok : ∀ t s, (bs s).length ≤ 1000000000 → ∃ H m wr, FnS Try.prog 0 f [.int .i64 t, .string s] .e 0 (.ret (out t s) H m wr)) : Ct Try.prog 0 where
  f := f
  res l H n := match l with | [.int .i64 t, .string s] => bif shortB s then .ret (out t s) H n [] else .bad "long" [] | _ => .bad "arguments" []
  ok l H n := by
    split
    · rename_i t s
      cases hs : shortB s with
      | false => trivial
      | true => obtain ⟨_, _, _, h⟩ := ok t s (short_len hs); exact callOK_pure h rfl (hp t s) H n
    · trivial
  ck l H n K := match l with | [.int .i64 t, .string s] => shortB s = true ∧ K (.ret (out t s) H n []) | _ => False
  imp l H n K h := by
    split at h
    · obtain ⟨h1, h2⟩ := h
      simp only [h1, cond_true]; exact h2
    · exact h.elim

def ct_rdcheck : Ct Try.prog 0 := Ct.intStr 34 (fun t s => .int .i64 (checkD t (bs s))) (fun _ _ => rfl) (fun t s hs => by
  obtain ⟨r, h, H, m, wr, rfl⟩ := check_fn t s hs
  exact ⟨H, m, wr, h⟩)
end Go.Proofs.Ytmpaeabkdhjamaa
/- DERIVED. Data: Lower. -/
namespace Go.Proofs.Ytmpaeabkdhjamaa
open Go Go.RowKit
noncomputable def tbE3 : Tb Try.prog 0 := tbOf mixed [ct_split, ct_rdcheck, ct_lower]

/-- A piece in lower form. -/
def lowP (p : Bs × Bool) : Bs := if p.2 then lower p.1 else p.1
theorem bs_cat (s t : ByteArray) : bs (catS s t) = bs s ++ bs t := by simp [bs, catS]
theorem bs_mk (l : Bs) : bs ⟨l.toArray⟩ = l := by simp [bs]
theorem lower_len (l : Bs) : (lower l).length = l.length := by simp [lower]
theorem lowP_len (p : Bs × Bool) : (lowP p).length = p.1.length := by unfold lowP; split <;> simp [lower_len]
theorem catOk_of {s t : ByteArray} (h : (bs s).length + (bs t).length ≤ 9000000000000000000) : catOk s t = true := by
  unfold catOk
  rw [bs_size, bs_size]; exact Nat.ble_eq_true_of_le (by omega)
theorem shortB_of {s : ByteArray} (h : (bs s).length ≤ 1000000000) : shortB s = true := by unfold shortB; rw [bs_size]; exact Nat.ble_eq_true_of_le h
def sumL (ps : List (Bs × Bool)) : Nat := (ps.flatMap fun p => p.1).length
theorem sumL_at (ps : List (Bs × Bool)) (i : Nat) (h : i < ps.length) : (ps[i].1).length ≤ sumL ps := by
  unfold sumL
  have : ps[i] ∈ ps := List.getElem_mem h
  revert this
  generalize ps[i] = p
  intro hm
  induction ps with
  | nil => cases hm
  | cons q r ih =>
    rw [List.flatMap_cons, List.length_append]
    rcases List.mem_cons.1 hm with e | e
    · rw [e]; omega
    · by_cases hr : r = []
      · subst hr; cases e
      · have : ∀ (l : List (Bs × Bool)), p ∈ l → p.1.length ≤ (l.flatMap fun p => p.1).length := by
          intro l hl
          induction l with
          | nil => cases hl
          | cons x y ihy =>
            rw [List.flatMap_cons, List.length_append]
            rcases List.mem_cons.1 hl with e2 | e2
            · rw [e2]; omega
            · have := ihy e2; omega
        have := this r e; omega
theorem lowP_take (ps : List (Bs × Bool)) (i : Nat) (h : i < ps.length) : (ps.take (i + 1)).flatMap lowP = (ps.take i).flatMap lowP ++ lowP ps[i] := by
  rw [List.take_succ_eq_append_getElem h, List.flatMap_append]; simp only [List.flatMap_cons, List.flatMap_nil, List.append_nil]
theorem low_sum (ps : List (Bs × Bool)) (i : Nat) : ((ps.take i).flatMap lowP).length ≤ sumL ps := by
  unfold sumL
  induction ps generalizing i with
  | nil => simp
  | cons p r ih =>
    cases i with
    | zero => simp
    | succ i =>
      have := ih i
      simp only [List.take_succ_cons, List.flatMap_cons, List.length_append, lowP_len]; omega
theorem str_mk (s : ByteArray) : Value.string s = str (bs s) := by simp [str, bs]

def lwS (ps : List (Bs × Bool)) (c : Nat) (x : Nat × ByteArray) (f : Nat → Option Value) : Fs :=
  ⟨slots 7 [(7, .string x.2), (19, .slice (some ⟨0, 0, none⟩) ps.length c), (20, .int .i64 ps.length), (21, .int .i64 x.1)] f, heap 1 [(0, .cells (ps.flatMap pc) 110)], 1, [], []⟩

set_option maxRecDepth 100000 in
theorem lower_loop (ps : List (Bs × Bool)) (c : Nat) (hl : ps.length < 1000) (hs : sumL ps ≤ 1000000000) {s0 : Fs} {K : Ex → Fs → Prop} (h0 : ∃ f, RcM Try.prog 0 0 (2 + (Try.f64.ntmps - 2)) none s0 (lwS ps c (0, ⟨#[]⟩) f))
    (hK : ∀ f, K (.exit 0) ⟨slots 7 [(7, str (ps.flatMap lowP))] f, heap 0 [], 0, [], []⟩) : LW Try.prog 0 0 (2 + (Try.f64.ntmps - 2)) none (loopAt Try.f64 0) s0 K := by
  refine loop_goX (lwS ps c) (fun x => ps.length - x.1) (fun x => x.1 ≤ ps.length ∧ bs x.2 = (ps.take x.1).flatMap lowP) (0, ⟨#[]⟩) ⟨Nat.zero_le _, rfl⟩ h0 ?_
  rintro ⟨i, o⟩ f ⟨hi, ho⟩
  have hi : i ≤ ps.length := hi
  have ho : bs o = (ps.take i).flatMap lowP := ho
  refine sx_ok tbE3 [0] 0 _ none mixed _ _ _ ?_
  refine ifK (fun h1 => ?_) (fun h1 => ?_)
  · have h1 : i < ps.length := by have := of_decide_eq_true h1; omega
    have hsum := sumL_at ps i h1
    have hol : (bs o).length ≤ sumL ps := by rw [ho]; exact low_sum ps i
    refine ifK (fun _ => ?_) (fun h2 => absurd h2 (by simp [inI]; omega))
    have hfl := flat_at pc 2 pc_len ps i h1
    refine Exists.intro ⟨ps[i].1.toArray⟩ (Exists.intro ps[i].2 (And.intro (by rw [Int.toNat_natCast, Nat.zero_add]; exact hfl) ?_))
    refine ifK (fun h3 => ?_) (fun h3 => ?_)
    · refine And.intro (shortB_of (by rw [bs_mk]; omega)) ?_
      refine And.intro (catOk_of (by rw [bs_mk (lower _), lower_len, bs_mk ps[i].1]; have e9 : (bs (i, o).2).length = (bs o).length := rfl; omega)) ?_
      refine ⟨(i + 1, catS o ⟨(lower (bs ⟨ps[i].1.toArray⟩)).toArray⟩), ⟨h1, ?_⟩, ?_, ?_⟩
      · show bs (catS _ _) = _
        rw [bs_cat, bs_mk (lower _), bs_mk ps[i].1, ho]; show _ = (ps.take (i + 1)).flatMap lowP; rw [lowP_take ps i h1]
        unfold lowP; rw [if_pos h3]
      · show ps.length - (i + 1) < ps.length - i; omega
      · exact rc_slots [0] rfl rfl rfl (fun l e => by cases e) (by decide) (by decide) rfl rfl (wr_of rfl) ⟨⟨_, rfl, .string _⟩, ⟨_, rfl, .sl _ _ _ _ _ rfl⟩, ⟨_, rfl, .int _ _⟩, slot_int rfl (by rw [wrapN (by omega) (by omega)]; omega), trivial⟩ ⟨⟨by decide, _, rfl, (by first | exact .same (flat_plain _ pc_plain ps) | exact .sameW (flat_plain _ pc_plain ps))⟩, trivial⟩ .nil
    · refine And.intro (catOk_of (by rw [bs_mk ps[i].1]; have e9 : (bs (i, o).2).length = (bs o).length := rfl; omega)) ?_
      refine ⟨(i + 1, catS o ⟨ps[i].1.toArray⟩), ⟨h1, ?_⟩, ?_, ?_⟩
      · show bs (catS _ _) = _
        rw [bs_cat, bs_mk ps[i].1, ho]; show _ = (ps.take (i + 1)).flatMap lowP; rw [lowP_take ps i h1]
        unfold lowP; rw [h3]; rfl
      · show ps.length - (i + 1) < ps.length - i; omega
      · exact rc_slots [0] rfl rfl rfl (fun l e => by cases e) (by decide) (by decide) rfl rfl (wr_of rfl) ⟨⟨_, rfl, .string _⟩, ⟨_, rfl, .sl _ _ _ _ _ rfl⟩, ⟨_, rfl, .int _ _⟩, slot_int rfl (by rw [wrapN (by omega) (by omega)]; omega), trivial⟩ ⟨⟨by decide, _, rfl, (by first | exact .same (flat_plain _ pc_plain ps) | exact .sameW (flat_plain _ pc_plain ps))⟩, trivial⟩ .nil
  · have h1 : ¬ i < ps.length := by have := of_decide_eq_false h1; omega
    have hh : Value.string o = str (ps.flatMap lowP) := by rw [str_mk, ho, List.take_of_length_le (by omega)]
    refine And.intro rfl (rc_end (rc_slots [] rfl rfl rfl (fun l e => by cases e) (by decide) (by decide) rfl rfl (wr_of rfl) (d := 7) (d2 := 0) (lv := [(7, str (ps.flatMap lowP))]) (bs := []) (W := []) (m := 0) (df := []) ⟨⟨_, rfl, ?_⟩, trivial⟩ trivial .nil) hK)
    rw [← hh]; exact .string _

def lowerD (t : Int) (l : Bs) : Bs := bif (ptsT t).isSome then (bif (outT t l).isSome && (outR t l).isEmpty then (outP t l).flatMap lowP else l) else l
theorem cuts_sum : ∀ (ps : List Pt) (l : Bs) (o : List (Bs × Bool)) (r : Bs), cuts ps l = some (o, r) → o.length = ps.length ∧ (o.flatMap fun p => p.1) ++ r = l
  | [], l, o, r, h => by simp only [cuts, Option.some.injEq, Prod.mk.injEq] at h; obtain ⟨rfl, rfl⟩ := h; simp
  | p :: ps, l, o, r, h => by
    simp only [cuts] at h
    cases hc : p.cut l with
    | none => rw [hc] at h; cases h
    | some n =>
      rw [hc] at h
      simp only [] at h
      obtain ⟨⟨o', r'⟩, h1, h2⟩ := Option.map_eq_some_iff.1 h
      simp only [Prod.mk.injEq] at h2
      obtain ⟨rfl, rfl⟩ := h2
      obtain ⟨e1, e2⟩ := cuts_sum ps _ _ _ h1
      refine ⟨by simp [e1], ?_⟩
      rw [List.flatMap_cons, List.append_assoc, e2]; simp
theorem outP_sum {t : Int} {l : Bs} (h1 : (ptsT t).isSome = true) (h2 : (outT t l).isSome = true) : (outP t l).length < 1000 ∧ sumL (outP t l) ≤ l.length := by
  obtain ⟨ps, hp⟩ := Option.isSome_iff_exists.1 h1
  obtain ⟨⟨o, r⟩, ho⟩ := Option.isSome_iff_exists.1 h2
  have hc : cuts ps l = some (o, r) := by unfold outT at ho; rw [hp] at ho; exact ho
  have e1 : outP t l = o := by unfold outP; rw [ho]
  obtain ⟨q1, q2⟩ := cuts_sum ps l o r hc
  have := (ptsT_some hp).2.1
  rw [e1]
  refine ⟨by omega, ?_⟩
  unfold sumL; rw [← q2]; simp

set_option maxRecDepth 100000 in
theorem lower_fn (t : Int) (s : ByteArray) (hs : (bs s).length ≤ 1000000000) : ∃ r, FnS Try.prog 0 64 [.int .i64 t, .string s] .e 0 r ∧ ∃ H m wr, r = .ret (str (lowerD t (bs s))) H m wr := by
  refine fn_sx mixed tbE3 [0] Try.func64 (c := bodyOf Try.f64) (by kernel_rfl) ?_
  unfold lowerD
  refine And.intro (shortB_of hs) ?_
  refine ifK (fun h1 => ?_) (fun h1 => ?_)
  · rw [h1]
    refine ifK (fun h2 => ?_) (fun h2 => ?_)
    · rw [h2]
      obtain ⟨o1, o2⟩ := outP_sum h1 h2
      refine ifK (fun h3 => ?_) (fun h3 => ?_)
      · rw [show (outR t (bs s)).isEmpty = false by simpa using h3]
        exact ⟨_, _, _, by simp only [Bool.and_false, cond_true, cond_false]; rw [← str_mk]; rfl⟩
      · rw [show (outR t (bs s)).isEmpty = true by simpa using h3]
        refine lower_loop (outP t (bs s)) U o1 (by omega) (rc_slots [0] rfl rfl rfl (fun l e => by cases e) (by decide) (by decide) rfl rfl (wr_of rfl) ⟨⟨_, rfl, .string _⟩, ⟨_, rfl, .sl _ _ _ _ _ rfl⟩, ⟨_, rfl, .int _ _⟩, ⟨_, rfl, .int _ _⟩, trivial⟩ ⟨⟨by decide, _, rfl, (by first | exact .same (flat_plain _ pc_plain _) | exact .sameW (flat_plain _ pc_plain _))⟩, trivial⟩ .nil) (fun f => ?_)
        exact ⟨_, _, _, rfl⟩
    · rw [h2]
      exact ⟨_, _, _, by simp only [Bool.false_and, cond_true, cond_false]; rw [← str_mk]; rfl⟩
  · rw [h1]
    have e : [(bs s, false)].flatMap lowP = bs s := by simp [lowP]
    refine lower_loop [(bs s, false)] 1 (by simp) (by simp [sumL]; omega) (rc_slots [0] rfl rfl rfl (fun l e => by cases e) (by decide) (by decide) rfl rfl (wr_of rfl) ⟨⟨_, rfl, .string _⟩, ⟨_, rfl, .sl _ _ _ _ _ rfl⟩, ⟨_, rfl, .int _ _⟩, ⟨_, rfl, .int _ _⟩, trivial⟩ ⟨⟨by decide, _, rfl, ro_eq (by rw [str_mk s]; rfl) rfl⟩, trivial⟩ .nil) (fun f => ?_)
    exact ⟨_, _, _, by rw [e]; rfl⟩
def ct_rdlower : Ct Try.prog 0 := Ct.intStr 64 (fun t s => str (lowerD t (bs s))) (fun _ _ => rfl) (fun t s hs => by
  obtain ⟨r, h, H, m, wr, rfl⟩ := lower_fn t s hs
  exact ⟨H, m, wr, h⟩)
end Go.Proofs.Ytmpaeabkdhjamaa
/- DERIVED. Data: what fits. -/
namespace Go.Proofs.Ytmpaeabkdhjamaa
open Go Go.RowKit
theorem check_zero {t : Int} {l : Bs} (h : checkD t l = 0) : 0 ≤ t ∧ t ≤ 65535 ∧ l.length ≤ 65535 ∧ fitsD t l = true := by
  unfold checkD at h
  split at h
  · cases h
  · split at h
    · cases h
    · split at h
      · rename_i h1 h2 h3
        exact ⟨by omega, by omega, by omega, h3⟩
      · cases h
theorem fits_out {t : Int} {ps : List Pt} {l : Bs} (hp : ptsT t = some ps) (h : fitsD t l = true) : ∃ o, cuts ps l = some (o, []) ∧ outT t l = some (o, []) := by
  unfold fitsD at h
  rw [hp] at h
  simp only [Option.isSome_some, cond_true, Bool.and_eq_true] at h
  obtain ⟨⟨o, r⟩, ho⟩ := Option.isSome_iff_exists.1 h.1
  have hr : r = [] := by
    have := h.2
    unfold outR at this
    rw [ho] at this
    simpa using this
  subst hr
  refine ⟨o, ?_, ho⟩
  unfold outT at ho
  rw [hp] at ho; exact ho
theorem cut_all {p : Pt} {l : Bs} {n : Nat} (h : p.cut l = some n) (hd : l.drop n = []) : l.take n = l := by
  rw [List.drop_eq_nil_iff] at hd
  exact List.take_of_length_le hd
theorem out_nm {t : Int} {l : Bs} (hp : ptsT t = some [.nm]) (h : fitsD t l = true) : outT t l = some ([(l, true)], []) := by
  obtain ⟨o, h1, h2⟩ := fits_out hp h
  rw [h2]
  simp only [cuts] at h1
  cases hc : Pt.nm.cut l with
  | none => rw [hc] at h1; cases h1
  | some n =>
    rw [hc] at h1
    simp only [Option.map_some, Option.some.injEq, Prod.mk.injEq] at h1
    obtain ⟨rfl, h3⟩ := h1
    rw [cut_all hc h3]; rfl
theorem out_mx {l : Bs} (h : fitsD 15 l = true) : outT 15 l = some ([(l.take 2, false), (l.drop 2, true)], []) := by
  obtain ⟨o, h1, h2⟩ := fits_out (ps := [.sz 2, .nm]) rfl h
  rw [h2]
  simp only [cuts] at h1
  cases hc0 : (Pt.sz 2).cut l with
  | none => rw [hc0] at h1; cases h1
  | some m =>
    rw [hc0] at h1
    have hm : m = 2 := by simp only [Pt.cut] at hc0; split at hc0 <;> cases hc0; rfl
    subst hm
    simp only [] at h1
    cases hc : Pt.nm.cut (l.drop 2) with
    | none => rw [hc] at h1; cases h1
    | some n =>
      rw [hc] at h1
      simp only [Option.map_some, Option.some.injEq, Prod.mk.injEq] at h1
      obtain ⟨rfl, h3⟩ := h1
      rw [cut_all hc h3]; rfl
theorem out_a {l : Bs} (h : fitsD 1 l = true) : l.length = 4 := by
  obtain ⟨o, h1, h2⟩ := fits_out (ps := [.sz 4]) rfl h
  simp only [cuts] at h1
  cases hc0 : (Pt.sz 4).cut l with
  | none => rw [hc0] at h1; cases h1
  | some m =>
    rw [hc0] at h1
    simp only [Pt.cut] at hc0
    split at hc0 <;> cases hc0
    simp only [Option.map_some, Option.some.injEq, Prod.mk.injEq, List.drop_eq_nil_iff] at h1
    omega
theorem out_soa {l : Bs} (h : fitsD 6 l = true) : ∃ a b c, outT 6 l = some ([(a, true), (b, true), (c, false)], []) ∧ l = a ++ b ++ c ∧ c.length = 20 := by
  obtain ⟨o, h1, h2⟩ := fits_out (ps := [.nm, .nm, .sz 20]) rfl h
  obtain ⟨q1, q2⟩ := cuts_sum _ _ _ _ h1
  simp only [cuts] at h1
  cases hc0 : Pt.nm.cut l with
  | none => rw [hc0] at h1; cases h1
  | some m =>
    rw [hc0] at h1
    simp only [] at h1
    cases hc1 : Pt.nm.cut (l.drop m) with
    | none => rw [hc1] at h1; cases h1
    | some k =>
      rw [hc1] at h1
      simp only [] at h1
      cases hc2 : (Pt.sz 20).cut ((l.drop m).drop k) with
      | none => rw [hc2] at h1; cases h1
      | some j =>
        rw [hc2] at h1
        simp only [Option.map_some, Option.some.injEq, Prod.mk.injEq] at h1
        obtain ⟨rfl, h3⟩ := h1
        have hle := cut_le hc2
        have hj : j = 20 := by simp only [Pt.cut] at hc2; split at hc2 <;> cases hc2; rfl
        refine ⟨_, _, _, h2, ?_, ?_⟩
        · simpa [List.append_assoc] using q2.symm
        · rw [List.length_take]; omega

/-- The name that data point at. -/
def tgtD (t : Int) (l : Bs) : Option Bs := if checkD t l = 0 then (if t = 2 ∨ t = 5 ∨ t = 12 then some l else if t = 15 then some (l.drop 2) else none) else none
def tgtV (x : Option Bs) : Value := .tuple #[str (x.getD []), .bool x.isSome]
theorem tgtV_plain (x : Option Bs) : plainV 8 (tgtV x) = true := by cases x <;> rfl

end Go.Proofs.Ytmpaeabkdhjamaa
/- DERIVED. Data: Read. -/
namespace Go.Proofs.Ytmpaeabkdhjamaa
open Go Go.RowKit
noncomputable def tbD7 (t : Int) (ps : List Pt) (ht : ∀ H n, partsGo t H n partsTab = partsOut ps.length (ps.flatMap Pt.cell) H n) : Tb Try.prog 0 := tbOf mixed [ct_partsAt t ps ht, ct_wread, ct_rdcheck]
noncomputable def tbD7n (t : Int) (ht : ∀ H n, partsGo t H n partsTab = .ret (.tuple #[.slice none 0 0, .bool false]) H n []) : Tb Try.prog 0 := tbOf mixed [ct_partsNo t ht]
theorem Rd.fine {B : Bl} {a p i : Nat} {out : Bl} {bh : Int} {r : RR} (h : Rd B a p i out bh r) (hb : bh = -1 ∨ 0 ≤ bh) (ho : out.length ≤ 254) : r.e = 0 → 0 ≤ r.next ∧ r.s.length ≤ 255 := by
  have z : ∀ k : Nat, (0 : Int) ≤ (k : Int) := fun k => Int.natCast_nonneg k
  induction h with
  | zero h hc =>
    intro _
    dsimp only
    refine ⟨?_, by rw [List.length_append, List.length_singleton]; omega⟩
    split
    · exact z (_ + 1)
    · omega
  | ptr h hc h2 h3 hr ih =>
    refine ih ?_ ho
    split
    · exact .inr (z (_ + 2))
    · exact hb
  | lab h hc hc2 h2 h3 hr ih =>
    refine ih hb ?_
    rw [List.length_append, List.length_take, List.length_drop]; omega
  | _ => intro e; cases e
theorem rdOk.fine {B : Bl} {x : Int} {r : RR} (h : rdOk B x r) : (r.e ≠ 0 → 0 ≤ r.pos ∧ r.pos ≤ B.length) ∧ (r.e = 0 → 0 ≤ r.next ∧ r.next ≤ B.length ∧ r.s.length ≤ 255) := by
  rcases h with ⟨_, rfl⟩ | ⟨a, rfl, h1, h2⟩
  · exact ⟨fun _ => ⟨Int.le_refl _, Int.natCast_nonneg _⟩, fun e => by cases e⟩
  · obtain ⟨_, q1, q2⟩ := h2.name h1 h1 h1 (by omega)
    have q3 := h2.fine (.inl rfl) (by simp)
    exact ⟨q1, fun e => ⟨(q3 e).1, q2 e, (q3 e).2⟩⟩
/-- What reading data tells, part by part. -/
inductive RdP (B : Bl) (a e t : Int) : List Pt → Int → Bs → Bs × Int × Int → Prop
  | fin {i : Int} {out : Bs} (h1 : i = e) (h2 : checkD t out = 0) : RdP B a e t [] i out (out, 0, 0)
  | off {i : Int} {out : Bs} (h : ¬ (i = e ∧ checkD t out = 0)) : RdP B a e t [] i out ([], 4, a)
  | nmb {ps : List Pt} {i : Int} {out : Bs} {r : RR} (h : rdOk B i r) (he : r.e ≠ 0) : RdP B a e t (.nm :: ps) i out ([], r.e, r.pos)
  | nmo {ps : List Pt} {i : Int} {out : Bs} {r : RR} (h : rdOk B i r) (he : r.e = 0) (h2 : r.next > e) : RdP B a e t (.nm :: ps) i out ([], 4, a)
  | nmc {ps : List Pt} {i : Int} {out : Bs} {r : RR} {y : Bs × Int × Int} (h : rdOk B i r) (he : r.e = 0) (h2 : ¬ r.next > e) (k : RdP B a e t ps r.next (out ++ r.s) y) : RdP B a e t (.nm :: ps) i out y
  | rest {ps : List Pt} {i : Int} {out : Bs} {y : Bs × Int × Int} (k : RdP B a e t ps e (out ++ (B.drop i.toNat).take (e.toNat - i.toNat)) y) : RdP B a e t (.rest :: ps) i out y
  | szb {ps : List Pt} {z : Nat} {i : Int} {out : Bs} (h : e - i < z) : RdP B a e t (.sz z :: ps) i out ([], 4, a)
  | szc {ps : List Pt} {z : Nat} {i : Int} {out : Bs} {y : Bs × Int × Int} (h : ¬ e - i < z) (k : RdP B a e t ps (i + z) (out ++ (B.drop i.toNat).take ((i + z).toNat - i.toNat)) y) : RdP B a e t (.sz z :: ps) i out y
theorem RdP.det {B : Bl} {a e t : Int} {ps : List Pt} {i : Int} {out : Bs} {y y' : Bs × Int × Int} (h : RdP B a e t ps i out y) (k : RdP B a e t ps i out y') : y = y' := by
  induction h generalizing y' with
  | fin h1 h2 => cases k with | fin => rfl | off h => exact absurd ⟨h1, h2⟩ h
  | off h => cases k with | fin h1 h2 => exact absurd ⟨h1, h2⟩ h | off => rfl
  | nmb h he => cases k with | nmb h' => rw [rdOk_det h h'] | nmo h' he' => rw [rdOk_det h h'] at he; exact absurd he' he | nmc h' he' => rw [rdOk_det h h'] at he; exact absurd he' he
  | nmo h he h2 => cases k with | nmb h' he' => rw [rdOk_det h h'] at he; exact absurd he he' | nmo => rfl | nmc h' he' h2' => rw [rdOk_det h h'] at h2; exact absurd h2 h2'
  | nmc h he h2 _ ih => cases k with | nmb h' he' => rw [rdOk_det h h'] at he; exact absurd he he' | nmo h' he' h2' => rw [rdOk_det h h'] at h2; exact absurd h2' h2 | nmc h' _ _ k' => rw [← rdOk_det h h'] at k'; exact ih k'
  | rest _ ih => cases k with | rest k' => exact ih k'
  | szb h => cases k with | szb => rfl | szc h' => exact absurd h h'
  | szc h _ ih => cases k with | szb h' => exact absurd h' h | szc _ k' => exact ih k'
def rrS (l : Bl) (o n c : Nat) (t a e : Int) (ps : List Pt) (x : Nat × Int × ByteArray) (f : Nat → Option Value) : Fs :=
  ⟨slots 8 [(0, .slice (some ⟨0, o, none⟩) n c), (3, .int .i64 t), (9, .pointer (some ⟨1, 0, none⟩)), (10, .int .i64 e), (13, .pointer (some ⟨3, 0, none⟩)), (14, .string x.2.2), (15, .int .i64 x.2.1), (76, .slice (some ⟨2, 0, none⟩) ps.length ps.length), (77, .int .i64 ps.length), (78, .int .i64 x.1)] f,
    heap 3 [(0, .win (l.map byV) 1), (1, .cells [.int .i64 0, .int .i64 0] 55), (2, .cells (ps.flatMap Pt.cell) 116), (3, .cells [.int .i64 4, .int .i64 a] 55)], 4, [], []⟩
set_option maxRecDepth 1000000 in
set_option maxHeartbeats 4000000 in
theorem rr_loop (l : Bl) (o n c : Nat) (t a e : Int) (ps : List Pt) (ht : ∀ H n, partsGo t H n partsTab = partsOut ps.length (ps.flatMap Pt.cell) H n) (hps : ps.length < 900) (h : o + n ≤ l.length) (hn : n ≤ 1000000) (hcap : c = U ∨ n ≤ c ∧ c ≤ 9223372036854775807) (ha : 0 ≤ a ∧ a ≤ e ∧ e ≤ n) {s0 : Fs} {K : Ex → Fs → Prop}
    (h0 : ∃ f, RcM Try.prog 0 1 (4 + (Try.f54.ntmps - 4)) none s0 (rrS l o n c t a e ps (0, a, ⟨#[]⟩) f))
    (hret : ∀ er pos f, er ≠ 0 → 0 ≤ pos → pos ≤ (n : Int) → RdP ((l.drop o).take n) a e t ps a [] ([], er, pos) → K .ret ⟨slots 8 [(8, .string ⟨#[]⟩), (9, .pointer (some ⟨1, 0, none⟩))] f, heap 2 [(1, .cells [.int .i64 er, .int .i64 pos] 55)], 2, [], []⟩)
    (hex : ∀ i out f, (bs out).length ≤ 1000000000 → (∀ y, RdP ((l.drop o).take n) a e t [] i (bs out) y → RdP ((l.drop o).take n) a e t ps a [] y) → K (.exit 1) ⟨slots 8 [(3, .int .i64 t), (9, .pointer (some ⟨1, 0, none⟩)), (10, .int .i64 e), (13, .pointer (some ⟨3, 0, none⟩)), (14, .string out), (15, .int .i64 i)] f, heap 3 [(1, .cells [.int .i64 0, .int .i64 0] 55), (3, .cells [.int .i64 4, .int .i64 a] 55)], 4, [], []⟩) :
    LW Try.prog 0 1 (4 + (Try.f54.ntmps - 4)) none (loopAt Try.f54 0) s0 K := by
  refine loop_goX (rrS l o n c t a e ps) (fun x => ps.length - x.1) (fun x => x.1 ≤ ps.length ∧ (0 ≤ x.2.1 ∧ x.2.1 ≤ e) ∧ (bs x.2.2).length ≤ x.1 * 1001000 ∧ ∀ y, RdP ((l.drop o).take n) a e t (ps.drop x.1) x.2.1 (bs x.2.2) y → RdP ((l.drop o).take n) a e t ps a [] y) (0, a, ⟨#[]⟩) ⟨Nat.zero_le _, ⟨ha.1, ha.2.1⟩, by simp [bs], fun y hy => hy⟩ h0 ?_
  rintro ⟨k, i, out⟩ f ⟨hk, ⟨hi1, hi2⟩, hout, hinv⟩
  have hk : k ≤ ps.length := hk
  have hi1 : 0 ≤ i := hi1
  have hi2 : i ≤ e := hi2
  have hout : (bs out).length ≤ k * 1001000 := hout
  have hinv : ∀ y, RdP ((l.drop o).take n) a e t (ps.drop k) i (bs out) y → RdP ((l.drop o).take n) a e t ps a [] y := hinv
  have htake : ∀ j m : Nat, j + m ≤ n → (l.drop (o + j)).take m = (((l.drop o).take n).drop j).take m := fun j m hjm => by rw [List.drop_take, List.take_take, List.drop_drop, Nat.min_eq_left (by omega)]
  obtain ⟨ha1, ha2, ha3⟩ := ha
  have h1s : (Try.prog.types[5]).size = 1 := by kernel_rfl
  have lenB' : ((l.drop o).take n).length = n := lenB h
  have hmulk : k * 1001000 ≤ 900 * 1001000 := Nat.mul_le_mul_right _ (by omega)
  have side : ∀ (h1 : k < ps.length), (0 + ((k : Nat) : Int).toNat * 3 + 3 ≤ (ps.flatMap Pt.cell).length ∧ List.take 3 (List.drop (0 + ((k : Nat) : Int).toNat * 3) (ps.flatMap Pt.cell)) = ps[k].cell) := fun h1 => by
    have := flat_at Pt.cell 3 Pt.cell_len ps k h1
    rw [Int.toNat_natCast, Nat.zero_add]; exact this
  have srcs : ∀ (x y : Int) (o' c' : Nat) (G : Gh), 0 ≤ x → x ≤ y → y ≤ n → (o' = o + x.toNat ∨ y.toNat - x.toNat = 0) → G 0 = some (.win (l.map byV) 1) → srcCells G 1 (.slice (some ⟨0, o', none⟩) (y.toNat - x.toNat) c') = some (y.toNat - x.toNat, (((l.drop (o + x.toNat)).take (y.toNat - x.toNat)).map fun b : UInt8 => Value.int .u8 (b.toNat : Int))) := fun x y o' c' G h1 h2 h3 ho hG => by
    unfold srcCells
    by_cases hz : y.toNat - x.toNat = 0
    · rw [hz]; simp
    · have ho := ho.resolve_right hz
      subst ho
      have : (y.toNat - x.toNat).beq 0 = false := by cases hb : (y.toNat - x.toNat).beq 0; rfl; exact absurd (Nat.eq_of_beq_eq_true hb) hz
      simp only [this, cond_false, hG, Option.bind_some, AObj.look]
      rw [Nat.ble_eq_true_of_le (by simp; omega)]
      simp only [cond_true, Nat.mul_one, List.map_take, List.map_drop]; rfl
  refine sx_ok (tbD7 t ps ht) [0, 2] 1 _ none mixed _ _ _ ?_
  refine ifK (fun h1 => ?_) (fun h1 => ?_)
  · have h1 : k < ps.length := by have := of_decide_eq_true h1; omega
    have hsd := side h1
    have hst : ps.drop k = ps[k] :: ps.drop (k + 1) := List.drop_eq_getElem_cons h1
    have hmul1 : (k + 1) * 1001000 = k * 1001000 + 1001000 := by rw [Nat.add_mul, Nat.one_mul]
    refine ifK (fun _ => ?_) (fun h2 => absurd h2 (by simp [inI]; omega))
    cases hp : ps[k] with
    | nm =>
      rw [hp] at hsd
      refine Exists.intro 0 (Exists.intro true (Exists.intro false (And.intro hsd ?_)))
      refine Exists.intro (⟨0, o, n, c, l⟩, i) (And.intro ⟨rfl, ⟨rfl, h⟩, by show n ≤ _; omega, hcap⟩ ?_)
      rintro v ⟨r, rfl, hr⟩
      obtain ⟨s, nx, er, pos⟩ := r
      obtain ⟨q1, q2⟩ := hr.fine
      have q1 : er ≠ 0 → 0 ≤ pos ∧ pos ≤ (((l.drop o).take n).length : Int) := q1
      have q2 : er = 0 → 0 ≤ nx ∧ nx ≤ (((l.drop o).take n).length : Int) ∧ s.length ≤ 255 := q2
      rw [lenB'] at q1 q2
      refine ifK (fun h3 => ?_) (fun h3 => ?_)
      · have h3 : er ≠ 0 := by simpa using h3
        refine And.intro ?_ ?_
        · kernel_rfl
        exact And.intro rfl (rc_end (rc_slots [1] rfl rfl rfl (fun l e => by cases e) (by decide) (by decide) rfl rfl (wr_of rfl) (d := 8) (d2 := 2) (lv := [(8, .string ⟨#[]⟩), (9, .pointer (some ⟨1, 0, none⟩))]) (bs := [(1, .cells [.int .i64 er, .int .i64 pos] 55)]) (W := []) (m := 2) (df := []) ⟨⟨_, rfl, .string _⟩, ⟨_, rfl, .ptr _ _ _ rfl⟩, trivial⟩ ⟨⟨by decide, _, rfl, .same rfl⟩, trivial⟩ .nil) (fun f => hret _ _ f h3 (q1 h3).1 (q1 h3).2 (hinv _ (by rw [hst, hp]; exact .nmb hr h3))))
      · have h3 : er = 0 := by simpa using h3
        obtain ⟨q3, q4, q5⟩ := q2 h3
        refine ifK (fun h4 => ?_) (fun h4 => ?_)
        · refine And.intro ?_ ?_
          · kernel_rfl
          exact And.intro rfl (rc_end (rc_slots [1] rfl rfl rfl (fun l e => by cases e) (by decide) (by decide) rfl rfl (wr_of rfl) (d := 8) (d2 := 2) (lv := [(8, .string ⟨#[]⟩), (9, .pointer (some ⟨1, 0, none⟩))]) (bs := [(1, .cells [.int .i64 4, .int .i64 a] 55)]) (W := []) (m := 2) (df := []) ⟨⟨_, rfl, .string _⟩, ⟨_, rfl, .ptr _ _ _ rfl⟩, trivial⟩ ⟨⟨by decide, _, rfl, .same rfl⟩, trivial⟩ .nil) (fun f => hret _ _ f (by decide) ha1 (by omega) (hinv _ (by rw [hst, hp]; exact .nmo hr h3 (of_decide_eq_true h4)))))
        · have h4 : ¬ nx > e := of_decide_eq_false h4
          have eS : bs ⟨s.toArray⟩ = s := bs_mk s
          refine And.intro (catOk_of (by rw [eS]; have e9 : (bs (k, i, out).2.2).length = (bs out).length := rfl; omega)) ?_
          refine ⟨(k + 1, nx, catS out ⟨s.toArray⟩), ⟨h1, ⟨q3, by show nx ≤ e; omega⟩, ?_, fun y hy => hinv y (by rw [hst, hp]; exact .nmc hr h3 h4 (by have hy : RdP _ a e t (ps.drop (k + 1)) nx (bs (catS out ⟨s.toArray⟩)) y := hy; rw [bs_cat, eS] at hy; exact hy))⟩, ?_, ?_⟩
          · show (bs (catS _ _)).length ≤ (k + 1) * 1001000
            rw [bs_cat, eS, List.length_append]; omega
          · show ps.length - (k + 1) < ps.length - k; omega
          · exact rc_slots [1, 2, 3] rfl rfl rfl (fun l e => by cases e) (by decide) (by decide) rfl rfl (wr_of rfl) ⟨⟨_, rfl, .sl _ _ _ _ _ rfl⟩, ⟨_, rfl, .int _ _⟩, ⟨_, rfl, .ptr _ _ _ rfl⟩, ⟨_, rfl, .int _ _⟩, ⟨_, rfl, .ptr _ _ _ rfl⟩, ⟨_, rfl, .string _⟩, ⟨_, rfl, .int _ _⟩, ⟨_, rfl, .sl _ _ _ _ _ rfl⟩, ⟨_, rfl, .int _ _⟩, slot_int rfl (by rw [wrapN (by omega) (by omega)]; omega), trivial⟩ ⟨⟨by decide, _, rfl, .sameW (byV_plain l)⟩, ⟨by decide, _, rfl, .same rfl⟩, ⟨by decide, _, rfl, (by first | exact .same (flat_plain _ Pt.cell_plain ps) | exact .sameW (flat_plain _ Pt.cell_plain ps))⟩, ⟨by decide, _, rfl, .same rfl⟩, trivial⟩ .nil
    | rest =>
      rw [hp] at hsd
      refine Exists.intro 0 (Exists.intro false (Exists.intro true (And.intro hsd ?_)))
      refine ifK (fun hcu => ?_) (fun hcu => ?_)
      · refine And.intro (by simp only [inLH, Bool.and_eq_true, decide_eq_true_eq]; omega) ?_
        refine Exists.intro ((l.drop (o + i.toNat)).take ((e).toNat - i.toNat)) (And.intro (by rw [h1s]; exact srcs i (e) (o + i.toNat * (Try.prog.types[5]).size) _ _ hi1 (by omega) (by omega) (.inl (by rw [h1s]; omega)) rfl) ?_)
        have eS : bs ⟨((l.drop (o + i.toNat)).take ((e).toNat - i.toNat)).toArray⟩ = (l.drop (o + i.toNat)).take ((e).toNat - i.toNat) := bs_mk _
        have eL : ((l.drop (o + i.toNat)).take ((e).toNat - i.toNat)).length ≤ 1000000 := by rw [List.length_take]; omega
        refine And.intro (catOk_of (by rw [eS]; have e9 : (bs (k, i, out).2.2).length = (bs out).length := rfl; omega)) ?_
        refine ⟨(k + 1, e, catS out ⟨((l.drop (o + i.toNat)).take ((e).toNat - i.toNat)).toArray⟩), ⟨h1, ⟨by show 0 ≤ e; omega, by show e ≤ e; omega⟩, ?_, fun y hy => hinv y (by rw [hst, hp]; refine .rest ?_; have hy : RdP _ a e t (ps.drop (k + 1)) e (bs (catS out ⟨((l.drop (o + i.toNat)).take ((e).toNat - i.toNat)).toArray⟩)) y := hy; rw [bs_cat, eS, htake _ _ (by omega)] at hy; exact hy)⟩, ?_, ?_⟩
        · show (bs (catS _ _)).length ≤ (k + 1) * 1001000
          rw [bs_cat, eS, List.length_append]; omega
        · show ps.length - (k + 1) < ps.length - k; omega
        · exact rc_slots [1, 2, 3] rfl rfl rfl (fun l e => by cases e) (by decide) (by decide) rfl rfl (wr_of rfl) ⟨⟨_, rfl, .sl _ _ _ _ _ rfl⟩, ⟨_, rfl, .int _ _⟩, ⟨_, rfl, .ptr _ _ _ rfl⟩, ⟨_, rfl, .int _ _⟩, ⟨_, rfl, .ptr _ _ _ rfl⟩, ⟨_, rfl, .string _⟩, ⟨_, rfl, .int _ _⟩, ⟨_, rfl, .sl _ _ _ _ _ rfl⟩, ⟨_, rfl, .int _ _⟩, slot_int rfl (by rw [wrapN (by omega) (by omega)]; omega), trivial⟩ ⟨⟨by decide, _, rfl, .sameW (byV_plain l)⟩, ⟨by decide, _, rfl, .same rfl⟩, ⟨by decide, _, rfl, (by first | exact .same (flat_plain _ Pt.cell_plain ps) | exact .sameW (flat_plain _ Pt.cell_plain ps))⟩, ⟨by decide, _, rfl, .same rfl⟩, trivial⟩ .nil
      · have hcU : c ≠ U := fun e0 => (by subst e0; cases hcu)
        obtain ⟨hc1, hc2⟩ := hcap.resolve_left hcU
        refine And.intro (by simp only [inLH, Bool.and_eq_true, decide_eq_true_eq]; exact ⟨⟨⟨⟨by omega, by omega⟩, by omega⟩, Nat.ble_eq_true_of_le hc1⟩, Nat.ble_eq_true_of_le (by omega)⟩) ?_
        refine Exists.intro ((l.drop (o + i.toNat)).take ((e).toNat - i.toNat)) (And.intro (by rw [h1s]; exact srcs i (e) (bif c.beq i.toNat then o else o + i.toNat * (Try.prog.types[5]).size) _ _ hi1 (by omega) (by omega) ((by cases hb : c.beq i.toNat with | true => (have hb2 := Nat.eq_of_beq_eq_true hb; exact .inr (by omega)) | false => exact .inl (by rw [cond_false, h1s]; omega))) rfl) ?_)
        have eS : bs ⟨((l.drop (o + i.toNat)).take ((e).toNat - i.toNat)).toArray⟩ = (l.drop (o + i.toNat)).take ((e).toNat - i.toNat) := bs_mk _
        have eL : ((l.drop (o + i.toNat)).take ((e).toNat - i.toNat)).length ≤ 1000000 := by rw [List.length_take]; omega
        refine And.intro (catOk_of (by rw [eS]; have e9 : (bs (k, i, out).2.2).length = (bs out).length := rfl; omega)) ?_
        refine ⟨(k + 1, e, catS out ⟨((l.drop (o + i.toNat)).take ((e).toNat - i.toNat)).toArray⟩), ⟨h1, ⟨by show 0 ≤ e; omega, by show e ≤ e; omega⟩, ?_, fun y hy => hinv y (by rw [hst, hp]; refine .rest ?_; have hy : RdP _ a e t (ps.drop (k + 1)) e (bs (catS out ⟨((l.drop (o + i.toNat)).take ((e).toNat - i.toNat)).toArray⟩)) y := hy; rw [bs_cat, eS, htake _ _ (by omega)] at hy; exact hy)⟩, ?_, ?_⟩
        · show (bs (catS _ _)).length ≤ (k + 1) * 1001000
          rw [bs_cat, eS, List.length_append]; omega
        · show ps.length - (k + 1) < ps.length - k; omega
        · exact rc_slots [1, 2, 3] rfl rfl rfl (fun l e => by cases e) (by decide) (by decide) rfl rfl (wr_of rfl) ⟨⟨_, rfl, .sl _ _ _ _ _ rfl⟩, ⟨_, rfl, .int _ _⟩, ⟨_, rfl, .ptr _ _ _ rfl⟩, ⟨_, rfl, .int _ _⟩, ⟨_, rfl, .ptr _ _ _ rfl⟩, ⟨_, rfl, .string _⟩, ⟨_, rfl, .int _ _⟩, ⟨_, rfl, .sl _ _ _ _ _ rfl⟩, ⟨_, rfl, .int _ _⟩, slot_int rfl (by rw [wrapN (by omega) (by omega)]; omega), trivial⟩ ⟨⟨by decide, _, rfl, .sameW (byV_plain l)⟩, ⟨by decide, _, rfl, .same rfl⟩, ⟨by decide, _, rfl, (by first | exact .same (flat_plain _ Pt.cell_plain ps) | exact .sameW (flat_plain _ Pt.cell_plain ps))⟩, ⟨by decide, _, rfl, .same rfl⟩, trivial⟩ .nil
    | sz z =>
      rw [hp] at hsd
      refine Exists.intro (z : Int) (Exists.intro false (Exists.intro false (And.intro hsd ?_)))
      have ew : IntKind.i64.wrap (e - i) = e - i := wrapN (by omega) (by omega)
      refine ifK (fun h3 => ?_) (fun h3 => ?_)
      · refine And.intro ?_ ?_
        · kernel_rfl
        exact And.intro rfl (rc_end (rc_slots [1] rfl rfl rfl (fun l e => by cases e) (by decide) (by decide) rfl rfl (wr_of rfl) (d := 8) (d2 := 2) (lv := [(8, .string ⟨#[]⟩), (9, .pointer (some ⟨1, 0, none⟩))]) (bs := [(1, .cells [.int .i64 4, .int .i64 a] 55)]) (W := []) (m := 2) (df := []) ⟨⟨_, rfl, .string _⟩, ⟨_, rfl, .ptr _ _ _ rfl⟩, trivial⟩ ⟨⟨by decide, _, rfl, .same rfl⟩, trivial⟩ .nil) (fun f => hret _ _ f (by decide) ha1 (by omega) (hinv _ (by rw [hst, hp]; exact .szb (by have h3 := of_decide_eq_true h3; rw [ew] at h3; exact h3)))))
      have h3 : ¬ e - i < z := by have h3 := of_decide_eq_false h3; rw [ew] at h3; exact h3
      have ey : IntKind.i64.wrap (i + (z : Int)) = i + z := wrapN (by omega) (by omega)
      refine And.intro ?_ ?_
      · kernel_rfl
      refine ifK (fun hcu => ?_) (fun hcu => ?_)
      · refine And.intro (by simp only [inLH, Bool.and_eq_true, decide_eq_true_eq]; omega) ?_
        refine Exists.intro ((l.drop (o + i.toNat)).take ((IntKind.i64.wrap (i + (z : Int))).toNat - i.toNat)) (And.intro (by rw [h1s]; exact srcs i (IntKind.i64.wrap (i + (z : Int))) (o + i.toNat * (Try.prog.types[5]).size) _ _ hi1 (by omega) (by omega) (.inl (by rw [h1s]; omega)) rfl) ?_)
        have eS : bs ⟨((l.drop (o + i.toNat)).take ((IntKind.i64.wrap (i + (z : Int))).toNat - i.toNat)).toArray⟩ = (l.drop (o + i.toNat)).take ((IntKind.i64.wrap (i + (z : Int))).toNat - i.toNat) := bs_mk _
        have eL : ((l.drop (o + i.toNat)).take ((IntKind.i64.wrap (i + (z : Int))).toNat - i.toNat)).length ≤ 1000000 := by rw [List.length_take]; omega
        refine And.intro (catOk_of (by rw [eS]; have e9 : (bs (k, i, out).2.2).length = (bs out).length := rfl; omega)) ?_
        refine ⟨(k + 1, IntKind.i64.wrap (i + (z : Int)), catS out ⟨((l.drop (o + i.toNat)).take ((IntKind.i64.wrap (i + (z : Int))).toNat - i.toNat)).toArray⟩), ⟨h1, ⟨by show 0 ≤ IntKind.i64.wrap (i + (z : Int)); omega, by show IntKind.i64.wrap (i + (z : Int)) ≤ e; omega⟩, ?_, fun y hy => hinv y (by rw [hst, hp]; refine .szc h3 ?_; have hy : RdP _ a e t (ps.drop (k + 1)) (IntKind.i64.wrap (i + (z : Int))) (bs (catS out ⟨((l.drop (o + i.toNat)).take ((IntKind.i64.wrap (i + (z : Int))).toNat - i.toNat)).toArray⟩)) y := hy; rw [bs_cat, eS, htake _ _ (by omega), ey] at hy; exact hy)⟩, ?_, ?_⟩
        · show (bs (catS _ _)).length ≤ (k + 1) * 1001000
          rw [bs_cat, eS, List.length_append]; omega
        · show ps.length - (k + 1) < ps.length - k; omega
        · exact rc_slots [1, 2, 3] rfl rfl rfl (fun l e => by cases e) (by decide) (by decide) rfl rfl (wr_of rfl) ⟨⟨_, rfl, .sl _ _ _ _ _ rfl⟩, ⟨_, rfl, .int _ _⟩, ⟨_, rfl, .ptr _ _ _ rfl⟩, ⟨_, rfl, .int _ _⟩, ⟨_, rfl, .ptr _ _ _ rfl⟩, ⟨_, rfl, .string _⟩, ⟨_, rfl, .int _ _⟩, ⟨_, rfl, .sl _ _ _ _ _ rfl⟩, ⟨_, rfl, .int _ _⟩, slot_int rfl (by rw [wrapN (by omega) (by omega)]; omega), trivial⟩ ⟨⟨by decide, _, rfl, .sameW (byV_plain l)⟩, ⟨by decide, _, rfl, .same rfl⟩, ⟨by decide, _, rfl, (by first | exact .same (flat_plain _ Pt.cell_plain ps) | exact .sameW (flat_plain _ Pt.cell_plain ps))⟩, ⟨by decide, _, rfl, .same rfl⟩, trivial⟩ .nil
      · have hcU : c ≠ U := fun e0 => (by subst e0; cases hcu)
        obtain ⟨hc1, hc2⟩ := hcap.resolve_left hcU
        refine And.intro (by simp only [inLH, Bool.and_eq_true, decide_eq_true_eq]; exact ⟨⟨⟨⟨by omega, by omega⟩, by omega⟩, Nat.ble_eq_true_of_le hc1⟩, Nat.ble_eq_true_of_le (by omega)⟩) ?_
        refine Exists.intro ((l.drop (o + i.toNat)).take ((IntKind.i64.wrap (i + (z : Int))).toNat - i.toNat)) (And.intro (by rw [h1s]; exact srcs i (IntKind.i64.wrap (i + (z : Int))) (bif c.beq i.toNat then o else o + i.toNat * (Try.prog.types[5]).size) _ _ hi1 (by omega) (by omega) ((by cases hb : c.beq i.toNat with | true => (have hb2 := Nat.eq_of_beq_eq_true hb; exact .inr (by omega)) | false => exact .inl (by rw [cond_false, h1s]; omega))) rfl) ?_)
        have eS : bs ⟨((l.drop (o + i.toNat)).take ((IntKind.i64.wrap (i + (z : Int))).toNat - i.toNat)).toArray⟩ = (l.drop (o + i.toNat)).take ((IntKind.i64.wrap (i + (z : Int))).toNat - i.toNat) := bs_mk _
        have eL : ((l.drop (o + i.toNat)).take ((IntKind.i64.wrap (i + (z : Int))).toNat - i.toNat)).length ≤ 1000000 := by rw [List.length_take]; omega
        refine And.intro (catOk_of (by rw [eS]; have e9 : (bs (k, i, out).2.2).length = (bs out).length := rfl; omega)) ?_
        refine ⟨(k + 1, IntKind.i64.wrap (i + (z : Int)), catS out ⟨((l.drop (o + i.toNat)).take ((IntKind.i64.wrap (i + (z : Int))).toNat - i.toNat)).toArray⟩), ⟨h1, ⟨by show 0 ≤ IntKind.i64.wrap (i + (z : Int)); omega, by show IntKind.i64.wrap (i + (z : Int)) ≤ e; omega⟩, ?_, fun y hy => hinv y (by rw [hst, hp]; refine .szc h3 ?_; have hy : RdP _ a e t (ps.drop (k + 1)) (IntKind.i64.wrap (i + (z : Int))) (bs (catS out ⟨((l.drop (o + i.toNat)).take ((IntKind.i64.wrap (i + (z : Int))).toNat - i.toNat)).toArray⟩)) y := hy; rw [bs_cat, eS, htake _ _ (by omega), ey] at hy; exact hy)⟩, ?_, ?_⟩
        · show (bs (catS _ _)).length ≤ (k + 1) * 1001000
          rw [bs_cat, eS, List.length_append]; omega
        · show ps.length - (k + 1) < ps.length - k; omega
        · exact rc_slots [1, 2, 3] rfl rfl rfl (fun l e => by cases e) (by decide) (by decide) rfl rfl (wr_of rfl) ⟨⟨_, rfl, .sl _ _ _ _ _ rfl⟩, ⟨_, rfl, .int _ _⟩, ⟨_, rfl, .ptr _ _ _ rfl⟩, ⟨_, rfl, .int _ _⟩, ⟨_, rfl, .ptr _ _ _ rfl⟩, ⟨_, rfl, .string _⟩, ⟨_, rfl, .int _ _⟩, ⟨_, rfl, .sl _ _ _ _ _ rfl⟩, ⟨_, rfl, .int _ _⟩, slot_int rfl (by rw [wrapN (by omega) (by omega)]; omega), trivial⟩ ⟨⟨by decide, _, rfl, .sameW (byV_plain l)⟩, ⟨by decide, _, rfl, .same rfl⟩, ⟨by decide, _, rfl, (by first | exact .same (flat_plain _ Pt.cell_plain ps) | exact .sameW (flat_plain _ Pt.cell_plain ps))⟩, ⟨by decide, _, rfl, .same rfl⟩, trivial⟩ .nil
  · have h1 : ¬ k < ps.length := by have := of_decide_eq_false h1; omega
    exact And.intro rfl (rc_end (rc_slots [1, 99, 3] rfl rfl rfl (fun l e => by cases e) (by decide) (by decide) rfl rfl (wr_of rfl) (d := 8) (d2 := 3) (lv := [(3, .int .i64 t), (9, .pointer (some ⟨1, 0, none⟩)), (10, .int .i64 e), (13, .pointer (some ⟨3, 0, none⟩)), (14, .string out), (15, .int .i64 i)]) (bs := [(1, .cells [.int .i64 0, .int .i64 0] 55), (3, .cells [.int .i64 4, .int .i64 a] 55)]) (W := []) (m := 4) (df := []) ⟨⟨_, rfl, .int _ _⟩, ⟨_, rfl, .ptr _ _ _ rfl⟩, ⟨_, rfl, .int _ _⟩, ⟨_, rfl, .ptr _ _ _ rfl⟩, ⟨_, rfl, .string _⟩, ⟨_, rfl, .int _ _⟩, trivial⟩ ⟨⟨by decide, _, rfl, .same rfl⟩, ⟨by decide, _, rfl, .same rfl⟩, trivial⟩ .nil) (fun f => hex _ _ f (by omega) (fun y hy => hinv y (by rw [show ps.drop k = [] from List.drop_eq_nil_of_le (by omega)]; exact hy))))
end Go.Proofs.Ytmpaeabkdhjamaa
/- DERIVED. Data: the document's form, texts, front. -/
namespace Go.Proofs.Ytmpaeabkdhjamaa
open Go Go.RowKit
noncomputable def tbF1 : Tb Try.prog 0 := tbOf mixed [ct_rcheck]
/-- A type's parts, as the document has them. -/
def formL (t : Int) : List Int := if t = 1 then [4] else if t = 28 then [16] else if t = 2 then [-1] else if t = 5 then [-1] else if t = 12 then [-1] else if t = 15 then [2, -1] else if t = 6 then [-1, -1, 20] else if t = 16 then [-2] else [-3]
def intV (i : Int) : Value := .int .i64 i
theorem intV_plain (l : List Int) : plainL (l.map intV) = true := by simp [plainL, plainV, intV]
set_option maxRecDepth 100000 in
theorem form_fn (t : Int) : ∃ r, FnS Try.prog 0 66 [.int .i64 t] .e 0 r ∧ ∃ H m wr, r = .ret (.slice (some ⟨0, 0, none⟩) (formL t).length (formL t).length) H m wr ∧ H.get 0 = some (.cells ((formL t).map intV) 3) := by
  refine fn_sx mixed tbF1 [] Try.func66 (c := bodyOf Try.f66) (by kernel_rfl) ?_
  unfold formL
  refine ifK (fun h => ?_) (fun h => ?_)
  · rw [if_pos (by simpa using h)]; exact ⟨_, _, _, rfl, rfl⟩
  rw [if_neg (by simpa using h)]
  refine ifK (fun h => ?_) (fun h => ?_)
  · rw [if_pos (by simpa using h)]; exact ⟨_, _, _, rfl, rfl⟩
  rw [if_neg (by simpa using h)]
  refine ifK (fun h => ?_) (fun h => ?_)
  · rw [if_pos (by simpa using h)]; exact ⟨_, _, _, rfl, rfl⟩
  rw [if_neg (by simpa using h)]
  refine ifK (fun h => ?_) (fun h => ?_)
  · rw [if_pos (by simpa using h)]; exact ⟨_, _, _, rfl, rfl⟩
  rw [if_neg (by simpa using h)]
  refine ifK (fun h => ?_) (fun h => ?_)
  · rw [if_pos (by simpa using h)]; exact ⟨_, _, _, rfl, rfl⟩
  rw [if_neg (by simpa using h)]
  refine ifK (fun h => ?_) (fun h => ?_)
  · rw [if_pos (by simpa using h)]; exact ⟨_, _, _, rfl, rfl⟩
  rw [if_neg (by simpa using h)]
  refine ifK (fun h => ?_) (fun h => ?_)
  · rw [if_pos (by simpa using h)]; exact ⟨_, _, _, rfl, rfl⟩
  rw [if_neg (by simpa using h)]
  refine ifK (fun h => ?_) (fun h => ?_)
  · rw [if_pos (by simpa using h)]; exact ⟨_, _, _, rfl, rfl⟩
  rw [if_neg (by simpa using h)]
  exact ⟨_, _, _, rfl, rfl⟩
def formOut (t : Int) (H : Tr AObj) (n : Nat) : Res := .ret (.slice (some ⟨n, 0, none⟩) (formL t).length (formL t).length) (H.set n (some (.cells ((formL t).map intV) 3))) (n + 1) []
def ct_form : Ct Try.prog 0 where
  f := 66
  res l H n := match l with | [.int .i64 t] => formOut t H n | _ => .bad "arguments" []
  ok l H n := by
    split
    · rename_i t
      obtain ⟨r, hF, H', m, wr, rfl, hb⟩ := form_fn t
      exact callOK_fresh1 (fun n => .slice (some ⟨n, 0, none⟩) (formL t).length (formL t).length) hF rfl hb (by decide) (intV_plain _) (fun n => .sl _ _ _ _ _ (tau_one _ _)) H n
    · trivial
  ck l H n K := match l with | [.int .i64 t] => K (formOut t H n) | _ => False
  imp l H n K h := by
    split at h
    · exact h
    · exact h.elim

set_option maxRecDepth 100000 in
theorem rtexts_fn (s : ByteArray) (hs : (bs s).length ≤ 1000000000) : ∃ r, FnS Try.prog 0 78 [.string s] .e 0 r ∧ ∃ H m wr, r = .ret (.bool (texts (bs s))) H m wr := by
  refine fn_sx mixed tbF1 [] Try.func78 (c := bodyOf Try.f78) (by kernel_rfl) ?_
  refine loop_goX (fun i f => ⟨slots 6 [(0, .string s), (3, .int .i64 (i : Nat))] f, heap 0 [], 0, [], []⟩) (fun i => (bs s).length - i) (fun i => i ≤ (bs s).length + 256 ∧ (i ≤ (bs s).length → txt (bs s) = txt ((bs s).drop i)) ∧ ((bs s).length < i → txt (bs s) = false)) 0 ⟨by omega, fun _ => rfl, fun h => by omega⟩
    (rc_slots [] rfl rfl rfl (fun l e => by cases e) (by decide) (by decide) rfl rfl (wr_of rfl) ⟨⟨_, rfl, .string _⟩, ⟨_, rfl, .int _ _⟩, trivial⟩ trivial .nil) ?_
  rintro i f ⟨hi, h1, h2⟩
  refine sx_ok tbF1 [] 0 _ none mixed _ _ _ ?_
  refine ifK (fun h3 => ?_) (fun h3 => ?_)
  · have h3 : i < (bs s).length := by have := of_decide_eq_true h3; rw [bs_size] at this; omega
    have hb := byte_lt (bs s)[i]
    have hat := atS_get s i h3
    have e1 : IntKind.i64.wrap (IntKind.i64.wrap ((i : Int) + 1) + IntKind.i64.wrap ((atS s (i : Int)).toNat : Int)) = ((i + 1 + (bs s)[i].toNat : Nat) : Int) := by
      rw [hat, wrapN (x := (((bs s)[i]).toNat : Int)) (by omega) (by omega), wrapN (x := (i : Int) + 1) (by omega) (by omega), wrapN (by omega) (by omega)]; omega
    refine And.intro (by simp only [inI, bs_size]; simp; omega) ?_
    have hstep := txt_at (bs s) i h3
    refine ⟨i + 1 + (bs s)[i].toNat, ⟨by omega, fun h4 => ?_, fun h4 => ?_⟩, by omega, rc_slots [] rfl rfl rfl (fun l e => by cases e) (by decide) (by decide) rfl rfl (wr_of rfl) ⟨⟨_, rfl, .string _⟩, slot_int rfl e1, trivial⟩ trivial .nil⟩
    · rw [h1 (by omega), hstep, decide_eq_true (by omega), Bool.true_and]
    · rw [h1 (by omega), hstep, decide_eq_false (by omega), Bool.false_and]
  · have h3 : ¬ i < (bs s).length := by have := of_decide_eq_false h3; rw [bs_size] at this; omega
    refine And.intro rfl (rc_end (rc_slots [] rfl rfl rfl (fun l e => by cases e) (by decide) (by decide) rfl rfl (wr_of rfl) (d := 6) (d2 := 0) (lv := [(0, .string s), (3, .int .i64 (i : Nat))]) (bs := []) (W := []) (m := 0) (df := []) ⟨⟨_, rfl, .string _⟩, ⟨_, rfl, .int _ _⟩, trivial⟩ trivial .nil) (fun f => ?_))
    refine ifK (fun h4 => ?_) (fun h4 => ?_)
    · have hne : (bs s).isEmpty = false := by
        have : (!(bs s == [])) = true := h4
        cases hb : bs s with
        | nil => rw [hb] at this; cases this
        | cons a l => rfl
      have : texts (bs s) = ((i : Int) == (s.data.size : Int)) := by
        unfold texts
        rw [hne, Bool.not_false, Bool.true_and, bs_size]
        by_cases hie : i = (bs s).length
        · rw [h1 (by omega), List.drop_eq_nil_of_le (by omega), txt_nil, hie]; simp
        · rw [h2 (by omega)]; symm; simp; omega
      rw [this]; exact ⟨_, _, _, rfl⟩
    · have : texts (bs s) = false := by
        have : (!(bs s == [])) = false := h4
        cases hb : bs s with
        | nil => rfl
        | cons a l => rw [hb] at this; cases this
      rw [this]; exact ⟨_, _, _, rfl⟩
def ct_rtexts : Ct Try.prog 0 := Ct.strF 78 (fun s => .bool (texts (bs s))) (fun _ => rfl) (fun s hs => by
  obtain ⟨r, h, H, m, wr, rfl⟩ := rtexts_fn s hs
  exact ⟨H, m, wr, h⟩)

/-- Where the name in front ends, or -1. -/
def frontI (l : Bs) : Int := match front l with | some k => (k : Int) | none => -1
set_option maxRecDepth 100000 in
theorem rfront_fn (s : ByteArray) (hs : (bs s).length ≤ 100000000) : ∃ r, FnS Try.prog 0 83 [.string s] .e 0 r ∧ ∃ H m wr, r = .ret (.int .i64 (frontI (bs s))) H m wr := by
  refine fn_sx mixed tbF1 [] Try.func83 (c := bodyOf Try.f83) (by kernel_rfl) ?_
  refine loop_goX (fun i f => ⟨slots 6 [(0, .string s), (3, .int .i64 (i : Nat))] f, heap 0 [], 0, [], []⟩) (fun i => (bs s).length + 300 - i) (fun i => i ≤ (bs s).length + 256 ∧ zpos (bs s) = (zpos ((bs s).drop i)).map (· + i)) 0 ⟨by omega, by simp⟩
    (rc_slots [] rfl rfl rfl (fun l e => by cases e) (by decide) (by decide) rfl rfl (wr_of rfl) ⟨⟨_, rfl, .string _⟩, ⟨_, rfl, .int _ _⟩, trivial⟩ trivial .nil) ?_
  rintro i f ⟨hi, heq⟩
  refine sx_ok tbF1 [] 0 _ none mixed _ _ _ ?_
  refine ifK (fun h1 => ?_) (fun h1 => ?_)
  · have h1 : i < (bs s).length := by have := of_decide_eq_true h1; rw [bs_size] at this; omega
    have hb := byte_lt (bs s)[i]
    have hat := atS_get s i h1
    have hstep := zpos_at (bs s) i h1
    refine And.intro (by simp only [inI, bs_size]; simp; omega) ?_
    refine ifK (fun h3 => ?_) (fun h3 => ?_)
    · have h3 : (bs s)[i].toNat ≠ 0 := by rw [hat] at h3; simpa using h3
      rw [if_neg h3] at hstep
      have e1 : IntKind.i64.wrap (IntKind.i64.wrap ((i : Int) + 1) + IntKind.i64.wrap ((atS s (i : Int)).toNat : Int)) = ((i + 1 + (bs s)[i].toNat : Nat) : Int) := by
        rw [hat, wrapN (x := (((bs s)[i]).toNat : Int)) (by omega) (by omega), wrapN (x := (i : Int) + 1) (by omega) (by omega), wrapN (by omega) (by omega)]; omega
      refine And.intro (by simp only [inI, bs_size]; simp; omega) ?_
      refine ⟨i + 1 + (bs s)[i].toNat, ⟨by omega, ?_⟩, by omega, rc_slots [] rfl rfl rfl (fun l e => by cases e) (by decide) (by decide) rfl rfl (wr_of rfl) ⟨⟨_, rfl, .string _⟩, slot_int rfl e1, trivial⟩ trivial .nil⟩
      rw [heq, hstep, Option.map_map]
      congr 1
      funext j; simp; omega
    · have h3 : (bs s)[i].toNat = 0 := by rw [hat] at h3; simpa using h3
      rw [if_pos h3] at hstep
      rw [hstep] at heq
      have hz : zpos (bs s) = some i := by rw [heq]; simp
      refine And.intro rfl (rc_end (rc_slots [] rfl rfl rfl (fun l e => by cases e) (by decide) (by decide) rfl rfl (wr_of rfl) (d := 6) (d2 := 0) (lv := [(0, .string s), (3, .int .i64 (i : Nat))]) (bs := []) (W := []) (m := 0) (df := []) ⟨⟨_, rfl, .string _⟩, ⟨_, rfl, .int _ _⟩, trivial⟩ trivial .nil) (fun f => ?_))
      refine ifK (fun _ => ?_) (fun h4 => absurd h4 (by rw [bs_size]; simp; omega))
      have e1 : IntKind.i64.wrap ((i : Int) + 1) = ((i + 1 : Nat) : Int) := by rw [wrapN (by omega) (by omega)]; omega
      have e2 : (IntKind.i64.wrap ((i : Int) + 1)).toNat = i + 1 := by rw [e1]; rfl
      refine And.intro (by rw [e1]; simp only [inLH, bs_size]; simp; omega) ?_
      have hsub : bs (subS s (Int.toNat 0) (IntKind.i64.wrap ((i : Int) + 1)).toNat) = (bs s).take (i + 1) := by rw [bs_sub, e2]; simp
      refine And.intro (shortB_of (by rw [hsub]; simp; omega)) ?_
      refine ifK (fun h4 => ?_) (fun h4 => ?_)
      · have h4 : (labels ((bs s).take (i + 1))).2 = 0 := by rw [hsub] at h4; simpa using h4
        have hf : frontI (bs s) = IntKind.i64.wrap ((i : Int) + 1) := by unfold frontI front; rw [hz, e1]; simp [h4]
        rw [hf]; exact ⟨_, _, _, rfl⟩
      · have h4 : ¬ (labels ((bs s).take (i + 1))).2 = 0 := by rw [hsub] at h4; simpa using h4
        have hf : frontI (bs s) = -1 := by unfold frontI front; rw [hz]; simp [h4]
        rw [hf]; exact ⟨_, _, _, rfl⟩
  · have h1 : ¬ i < (bs s).length := by have := of_decide_eq_false h1; rw [bs_size] at this; omega
    have hf : frontI (bs s) = -1 := by
      unfold frontI front
      rw [heq, List.drop_eq_nil_of_le (by omega), zpos_nil]; rfl
    rw [hf]
    refine And.intro rfl (rc_end (rc_slots [] rfl rfl rfl (fun l e => by cases e) (by decide) (by decide) rfl rfl (wr_of rfl) (d := 6) (d2 := 0) (lv := [(0, .string s), (3, .int .i64 (i : Nat))]) (bs := []) (W := []) (m := 0) (df := []) ⟨⟨_, rfl, .string _⟩, ⟨_, rfl, .int _ _⟩, trivial⟩ trivial .nil) (fun f => ?_))
    refine ifK (fun h4 => absurd h4 (by rw [bs_size]; simp; omega)) (fun _ => ?_)
    exact ⟨_, _, _, rfl⟩
def ct_rfront : Ct Try.prog 0 where
  f := 83
  res l H n := match l with | [.string s] => bif s.data.size.ble 100000000 then .ret (.int .i64 (frontI (bs s))) H n [] else .bad "long" [] | _ => .bad "arguments" []
  ok l H n := by
    split
    · rename_i s
      cases hs : s.data.size.ble 100000000 with
      | false => trivial
      | true =>
        obtain ⟨r, h, H', m, wr, rfl⟩ := rfront_fn s (by rw [← bs_size]; exact Nat.le_of_ble_eq_true hs)
        exact callOK_pure h rfl rfl H n
    · trivial
  ck l H n K := match l with | [.string s] => s.data.size.ble 100000000 = true ∧ brK (front (bs s)).isSome (K (.ret (.int .i64 (frontN (bs s) : Int)) H n [])) (K (.ret (.int .i64 (-1)) H n [])) | _ => False
  imp l H n K h := by
    split at h
    · rename_i s
      obtain ⟨h1, h2⟩ := h
      simp only [h1, cond_true]
      unfold frontI
      cases hf : front (bs s) with
      | none => rw [hf] at h2; exact h2
      | some k => rw [hf] at h2; simp only [frontN, hf, Option.getD_some] at h2; exact h2
    · exact h.elim
end Go.Proofs.Ytmpaeabkdhjamaa
/- DERIVED. Data: the document's Parts. -/
namespace Go.Proofs.Ytmpaeabkdhjamaa
open Go Go.RowKit
/-- A part, as the document has it. -/
inductive Pr where
  | nm
  | rest
  | all
  | sz (k : Nat)
def Pr.i : Pr → Int
  | .nm => -1
  | .rest => -2
  | .all => -3
  | .sz k => (k : Int)
def Pr.cut (p : Pr) (l : Bs) : Option Nat :=
  match p with
  | .nm => front l
  | .rest => if texts l then some l.length else none
  | .all => some l.length
  | .sz k => if k ≤ l.length then some k else none
def cutsR : List Pr → Bs → Option (List Bs × Bs)
  | [], l => some ([], l)
  | p :: ps, l => match p.cut l with
    | none => none
    | some n => (cutsR ps (l.drop n)).map fun x => (l.take n :: x.1, x.2)
theorem cutsR_step (ps : List Pr) (i : Nat) (h : i < ps.length) (l : Bs) : cutsR (ps.drop i) l = match ps[i].cut l with
    | none => none
    | some n => (cutsR (ps.drop (i + 1)) (l.drop n)).map fun x => (l.take n :: x.1, x.2) := by
  rw [List.drop_eq_getElem_cons h]; rfl
noncomputable def tbF2 : Tb Try.prog 0 := tbOf mixed [ct_form, ct_rtexts, ct_rfront]
theorem strs_plain (l : List Bs) : plainL (l.map str) = true := by simp [plainL, plainV, str]
def paS (ps : List Pr) (x : Nat × List Bs × ByteArray) (f : Nat → Option Value) : Fs :=
  match x with
  | (i, acc, s) =>
    match acc with
    | [] => ⟨slots 7 [(1, .string s), (6, .slice (some ⟨0, 0, none⟩) ps.length ps.length), (7, .slice none 0 0), (8, .int .i64 i)] f, heap 1 [(0, .cells ((ps.map Pr.i).map intV) 3)], 1, [], []⟩
    | a :: l => ⟨slots 7 [(1, .string s), (6, .slice (some ⟨0, 0, none⟩) ps.length ps.length), (7, .slice (some ⟨1, 0, none⟩) (l.length + 1) U), (8, .int .i64 i)] f, heap 2 [(0, .cells ((ps.map Pr.i).map intV) 3), (1, .cells ((a :: l).map str) 9)], 2, [], []⟩
def paP (ps : List Pr) (s0 : ByteArray) (r : Res) : Prop := ∃ H m wr,
      (∃ out rest b, cutsR ps (bs s0) = some (out, rest) ∧ r = .ret (.tuple #[.slice (some ⟨b, 0, none⟩) out.length U, .bool rest.isEmpty]) H m wr ∧ H.get b = some (.cells (out.map str) 9) ∧ b < JJ) ∨
      (cutsR ps (bs s0) = none ∧ r = .ret (.tuple #[.slice none 0 0, .bool false]) H m wr)
set_option maxRecDepth 1000000 in
set_option maxHeartbeats 4000000 in
theorem parts_fn (t : Int) (ps : List Pr) (hps : 0 < ps.length) (hps2 : ps.length < 1000) (ht : formL t = ps.map Pr.i) (s0 : ByteArray) (hs0 : (bs s0).length ≤ 100000000) :
    ∃ r, FnS Try.prog 0 62 [.int .i64 t, .string s0] .e 0 r ∧ paP ps s0 r := by
  refine fn_sx mixed tbF2 [] Try.func62 (c := bodyOf Try.f62) (by kernel_rfl) ?_
  have hlen : (formL t).length = ps.length := by rw [ht]; simp
  refine loop_goX (paS ps) (fun x => ps.length - x.1) (fun x => x.1 ≤ ps.length ∧ (bs x.2.2).length ≤ 100000000 ∧ x.2.1.length = x.1 ∧ cutsR ps (bs s0) = (cutsR (ps.drop x.1) (bs x.2.2)).map fun y => (x.2.1 ++ y.1, y.2)) (0, [], s0) ⟨Nat.zero_le _, hs0, rfl, by simp⟩
    (rc_slots [0] rfl rfl rfl (fun l e => by cases e) (by decide) (by decide) rfl rfl (wr_of rfl) ⟨⟨_, rfl, .string _⟩, ⟨_, rfl, by rw [← hlen]; exact .sl _ _ _ _ _ rfl⟩, ⟨_, rfl, plain_rv 8 rfl⟩, ⟨_, rfl, .int _ _⟩, trivial⟩ ⟨⟨by decide, _, rfl, by rw [← ht]; exact .same (intV_plain _)⟩, trivial⟩ .nil) ?_
  rintro ⟨i, acc, s⟩ f ⟨hi, hs, hacc, heq⟩
  have hi : i ≤ ps.length := hi
  have hs : (bs s).length ≤ 100000000 := hs
  have hacc : acc.length = i := hacc
  have heq : cutsR ps (bs s0) = (cutsR (ps.drop i) (bs s)).map fun y => (acc ++ y.1, y.2) := heq
  have hsB : s.data.size.ble 100000000 = true := by rw [bs_size]; exact Nat.ble_eq_true_of_le hs
  have hz : s.data.size = (bs s).length := bs_size s
  have side : ∀ (h1 : i < ps.length), ((ps.map Pr.i).map intV)[0 + ((i : Nat) : Int).toNat * 1]? = some (.int .i64 ps[i].i) := fun h1 => by
    rw [Int.toNat_natCast, Nat.zero_add, Nat.mul_one]
    simp [h1, intV]
  cases acc with
  | nil =>
    refine sx_ok tbF2 [0] 0 _ none mixed _ _ _ ?_
    refine ifK (fun h1 => ?_) (fun h1 => ?_)
    · have h1 : i < ps.length := by have := of_decide_eq_true h1; omega
      have hst := cutsR_step ps i h1 (bs s)
      have hsd := side h1
      refine ifK (fun _ => ?_) (fun h2 => absurd h2 (by simp [inI]; omega))
      cases hp : ps[i] with
      | nm =>
        rw [hp] at hst hsd
        refine Exists.intro (-1 : Int) (And.intro hsd ?_)
        refine And.intro hsB ?_
        refine ifK (fun h3 => ?_) (fun h3 => ?_)
        · obtain ⟨k, hk⟩ := Option.isSome_iff_exists.1 h3
          have hcut : Pr.nm.cut (bs s) = some k := hk
          have hkn : frontN (bs s) = k := by simp [frontN, hk]
          have hkl := front_le hk
          have hx : ((frontN (bs s) : Nat) : Int) = (k : Nat) := by rw [hkn]
          refine ifK (fun h5 => absurd (of_decide_eq_true h5) (by rw [hkn, bs_size]; omega)) (fun _ => ?_)
          refine And.intro (by rw [hx]; simp only [inLH, bs_size, Bool.and_eq_true, decide_eq_true_eq] <;> omega) ?_
          refine And.intro (by rw [hx]; simp only [inLH, bs_size, Bool.and_eq_true, decide_eq_true_eq] <;> omega) ?_
          refine ⟨(i + 1, [] ++ [(bs s).take (k)], subS s (((frontN (bs s) : Nat) : Int)).toNat ((s.data.size : Int)).toNat), ⟨h1, ?_, ?_, ?_⟩, ?_, ?_⟩
          · show (bs (subS s _ _)).length ≤ _; rw [sub_rest s _ _ hx]; simp <;> omega
          · simp only [List.length_append, hacc]; rfl
          · show cutsR ps (bs s0) = (cutsR (ps.drop (i + 1)) (bs (subS s _ _))).map _; rw [sub_rest s _ _ hx, heq, hst, hcut]; simp only [Option.map_map]; exact congrArg (fun g => Option.map g _) (funext fun y => by simp)
          · show ps.length - (i + 1) < ps.length - i; omega
          · refine rc_slots [0, 2] rfl rfl rfl (fun l e => by cases e) (by decide) (by decide) rfl rfl (wr_of rfl) ⟨⟨_, rfl, .string _⟩, ⟨_, rfl, .sl _ _ _ _ _ rfl⟩, ⟨_, rfl, ?_⟩, slot_int rfl (by rw [wrapN (by omega) (by omega)]; omega), trivial⟩ ⟨⟨by decide, _, rfl, .same (intV_plain _)⟩, ⟨by decide, _, rfl, ?_⟩, trivial⟩ .nil
            · exact .sl _ _ _ _ _ rfl
            · refine ro_eq ?_ (strs_plain _)
              show [Value.string (subS s (Int.toNat 0) (((frontN (bs s) : Nat) : Int)).toNat)] = _
              rw [sub_take s _ _ hx]; rfl
        · have hcut : Pr.nm.cut (bs s) = none := by have : (front (bs s)).isSome = false := h3; simpa [Pr.cut] using this
          have hn : cutsR ps (bs s0) = none := by rw [heq, hst, hcut]; rfl
          refine And.intro rfl (rc_end (rc_slots [] rfl rfl rfl (fun l e => by cases e) (by decide) (by decide) rfl rfl (wr_of rfl) (d := 7) (d2 := 0) (lv := [(4, .slice none 0 0), (5, .bool false)]) (bs := []) (W := []) (m := 0) (df := []) ⟨⟨_, rfl, plain_rv 8 rfl⟩, ⟨_, rfl, plain_rv 8 rfl⟩, trivial⟩ trivial .nil) (fun f => ?_))
          exact ⟨_, _, _, .inr ⟨hn, rfl⟩⟩
      | rest =>
        rw [hp] at hst hsd
        refine Exists.intro (-2 : Int) (And.intro hsd ?_)
        refine And.intro (shortB_of (by omega)) ?_
        refine ifK (fun h3 => ?_) (fun h3 => ?_)
        · have hcut : Pr.rest.cut (bs s) = some (bs s).length := by have h3 : texts (bs s) = true := h3; simp [Pr.cut, h3]
          have hx : (s.data.size : Int) = ((bs s).length : Nat) := by rw [bs_size]
          refine ifK (fun h5 => absurd h5 (by simp)) (fun _ => ?_)
          refine And.intro (by rw [hx]; simp only [inLH, bs_size, Bool.and_eq_true, decide_eq_true_eq] <;> omega) ?_
          refine And.intro (by rw [hx]; simp only [inLH, bs_size, Bool.and_eq_true, decide_eq_true_eq] <;> omega) ?_
          refine ⟨(i + 1, [] ++ [(bs s).take ((bs s).length)], subS s ((s.data.size : Int)).toNat ((s.data.size : Int)).toNat), ⟨h1, ?_, ?_, ?_⟩, ?_, ?_⟩
          · show (bs (subS s _ _)).length ≤ _; rw [sub_rest s _ _ hx]; simp <;> omega
          · simp only [List.length_append, hacc]; rfl
          · show cutsR ps (bs s0) = (cutsR (ps.drop (i + 1)) (bs (subS s _ _))).map _; rw [sub_rest s _ _ hx, heq, hst, hcut]; simp only [Option.map_map]; exact congrArg (fun g => Option.map g _) (funext fun y => by simp)
          · show ps.length - (i + 1) < ps.length - i; omega
          · refine rc_slots [0, 2] rfl rfl rfl (fun l e => by cases e) (by decide) (by decide) rfl rfl (wr_of rfl) ⟨⟨_, rfl, .string _⟩, ⟨_, rfl, .sl _ _ _ _ _ rfl⟩, ⟨_, rfl, ?_⟩, slot_int rfl (by rw [wrapN (by omega) (by omega)]; omega), trivial⟩ ⟨⟨by decide, _, rfl, .same (intV_plain _)⟩, ⟨by decide, _, rfl, ?_⟩, trivial⟩ .nil
            · exact .sl _ _ _ _ _ rfl
            · refine ro_eq ?_ (strs_plain _)
              show [Value.string (subS s (Int.toNat 0) ((s.data.size : Int)).toNat)] = _
              rw [sub_take s _ _ hx]; rfl
        · have hcut : Pr.rest.cut (bs s) = none := by have h3 : texts (bs s) = false := h3; simp [Pr.cut, h3]
          have hn : cutsR ps (bs s0) = none := by rw [heq, hst, hcut]; rfl
          refine And.intro rfl (rc_end (rc_slots [] rfl rfl rfl (fun l e => by cases e) (by decide) (by decide) rfl rfl (wr_of rfl) (d := 7) (d2 := 0) (lv := [(4, .slice none 0 0), (5, .bool false)]) (bs := []) (W := []) (m := 0) (df := []) ⟨⟨_, rfl, plain_rv 8 rfl⟩, ⟨_, rfl, plain_rv 8 rfl⟩, trivial⟩ trivial .nil) (fun f => ?_))
          exact ⟨_, _, _, .inr ⟨hn, rfl⟩⟩
      | all =>
        rw [hp] at hst hsd
        refine Exists.intro (-3 : Int) (And.intro hsd ?_)
        have hcut : Pr.all.cut (bs s) = some (bs s).length := rfl
        have hx : (s.data.size : Int) = ((bs s).length : Nat) := by rw [bs_size]
        refine ifK (fun h5 => absurd h5 (by simp)) (fun _ => ?_)
        refine And.intro (by rw [hx]; simp only [inLH, bs_size, Bool.and_eq_true, decide_eq_true_eq] <;> omega) ?_
        refine And.intro (by rw [hx]; simp only [inLH, bs_size, Bool.and_eq_true, decide_eq_true_eq] <;> omega) ?_
        refine ⟨(i + 1, [] ++ [(bs s).take ((bs s).length)], subS s ((s.data.size : Int)).toNat ((s.data.size : Int)).toNat), ⟨h1, ?_, ?_, ?_⟩, ?_, ?_⟩
        · show (bs (subS s _ _)).length ≤ _; rw [sub_rest s _ _ hx]; simp <;> omega
        · simp only [List.length_append, hacc]; rfl
        · show cutsR ps (bs s0) = (cutsR (ps.drop (i + 1)) (bs (subS s _ _))).map _; rw [sub_rest s _ _ hx, heq, hst, hcut]; simp only [Option.map_map]; exact congrArg (fun g => Option.map g _) (funext fun y => by simp)
        · show ps.length - (i + 1) < ps.length - i; omega
        · refine rc_slots [0, 2] rfl rfl rfl (fun l e => by cases e) (by decide) (by decide) rfl rfl (wr_of rfl) ⟨⟨_, rfl, .string _⟩, ⟨_, rfl, .sl _ _ _ _ _ rfl⟩, ⟨_, rfl, ?_⟩, slot_int rfl (by rw [wrapN (by omega) (by omega)]; omega), trivial⟩ ⟨⟨by decide, _, rfl, .same (intV_plain _)⟩, ⟨by decide, _, rfl, ?_⟩, trivial⟩ .nil
          · exact .sl _ _ _ _ _ rfl
          · refine ro_eq ?_ (strs_plain _)
            show [Value.string (subS s (Int.toNat 0) ((s.data.size : Int)).toNat)] = _
            rw [sub_take s _ _ hx]; rfl
      | sz k =>
        rw [hp] at hst hsd
        refine Exists.intro (k : Int) (And.intro hsd ?_)
        refine ifK (fun h3 => ?_) (fun h3 => ?_)
        · have h3 : ¬ k ≤ (bs s).length := by have := of_decide_eq_true h3; rw [bs_size] at this; omega
          have hcut : (Pr.sz k).cut (bs s) = none := by simp [Pr.cut, h3]
          have hn : cutsR ps (bs s0) = none := by rw [heq, hst, hcut]; rfl
          refine And.intro rfl (rc_end (rc_slots [] rfl rfl rfl (fun l e => by cases e) (by decide) (by decide) rfl rfl (wr_of rfl) (d := 7) (d2 := 0) (lv := [(4, .slice none 0 0), (5, .bool false)]) (bs := []) (W := []) (m := 0) (df := []) ⟨⟨_, rfl, plain_rv 8 rfl⟩, ⟨_, rfl, plain_rv 8 rfl⟩, trivial⟩ trivial .nil) (fun f => ?_))
          exact ⟨_, _, _, .inr ⟨hn, rfl⟩⟩
        · have h3 : k ≤ (bs s).length := by have := of_decide_eq_false h3; rw [bs_size] at this; omega
          have hcut : (Pr.sz k).cut (bs s) = some k := by simp [Pr.cut, h3]
          have hx : (k : Int) = (k : Nat) := rfl
          refine And.intro (by rw [hx]; simp only [inLH, bs_size, Bool.and_eq_true, decide_eq_true_eq] <;> omega) ?_
          refine And.intro (by rw [hx]; simp only [inLH, bs_size, Bool.and_eq_true, decide_eq_true_eq] <;> omega) ?_
          refine ⟨(i + 1, [] ++ [(bs s).take (k)], subS s ((k : Int)).toNat ((s.data.size : Int)).toNat), ⟨h1, ?_, ?_, ?_⟩, ?_, ?_⟩
          · show (bs (subS s _ _)).length ≤ _; rw [sub_rest s _ _ hx]; simp <;> omega
          · simp only [List.length_append, hacc]; rfl
          · show cutsR ps (bs s0) = (cutsR (ps.drop (i + 1)) (bs (subS s _ _))).map _; rw [sub_rest s _ _ hx, heq, hst, hcut]; simp only [Option.map_map]; exact congrArg (fun g => Option.map g _) (funext fun y => by simp)
          · show ps.length - (i + 1) < ps.length - i; omega
          · refine rc_slots [0, 2] rfl rfl rfl (fun l e => by cases e) (by decide) (by decide) rfl rfl (wr_of rfl) ⟨⟨_, rfl, .string _⟩, ⟨_, rfl, .sl _ _ _ _ _ rfl⟩, ⟨_, rfl, ?_⟩, slot_int rfl (by rw [wrapN (by omega) (by omega)]; omega), trivial⟩ ⟨⟨by decide, _, rfl, .same (intV_plain _)⟩, ⟨by decide, _, rfl, ?_⟩, trivial⟩ .nil
            · exact .sl _ _ _ _ _ rfl
            · refine ro_eq ?_ (strs_plain _)
              show [Value.string (subS s (Int.toNat 0) ((k : Int)).toNat)] = _
              rw [sub_take s _ _ hx]; rfl
    · have h1 : ¬ i < ps.length := by have := of_decide_eq_false h1; omega
      exact absurd hacc (by simp; omega)
  | cons a l =>
    refine sx_ok tbF2 [0, 1] 0 _ none mixed _ _ _ ?_
    refine ifK (fun h1 => ?_) (fun h1 => ?_)
    · have h1 : i < ps.length := by have := of_decide_eq_true h1; omega
      have hst := cutsR_step ps i h1 (bs s)
      have hsd := side h1
      refine ifK (fun _ => ?_) (fun h2 => absurd h2 (by simp [inI]; omega))
      cases hp : ps[i] with
      | nm =>
        rw [hp] at hst hsd
        refine Exists.intro (-1 : Int) (And.intro hsd ?_)
        refine And.intro hsB ?_
        refine ifK (fun h3 => ?_) (fun h3 => ?_)
        · obtain ⟨k, hk⟩ := Option.isSome_iff_exists.1 h3
          have hcut : Pr.nm.cut (bs s) = some k := hk
          have hkn : frontN (bs s) = k := by simp [frontN, hk]
          have hkl := front_le hk
          have hx : ((frontN (bs s) : Nat) : Int) = (k : Nat) := by rw [hkn]
          refine ifK (fun h5 => absurd (of_decide_eq_true h5) (by rw [hkn, bs_size]; omega)) (fun _ => ?_)
          refine And.intro (by rw [hx]; simp only [inLH, bs_size, Bool.and_eq_true, decide_eq_true_eq] <;> omega) ?_
          refine And.intro (by have hT : (Try.prog.types[9]).size = 1 := (by kernel_rfl); have hB : (Try.prog.types[9]).bytes = 16 := (by kernel_rfl); have hl : l.length + 1 = i := hacc; simp [oneL, Value.oneCell', hT, hB]; omega) ?_
          refine And.intro (by rw [hx]; simp only [inLH, bs_size, Bool.and_eq_true, decide_eq_true_eq] <;> omega) ?_
          refine ⟨(i + 1, (a :: l) ++ [(bs s).take (k)], subS s (((frontN (bs s) : Nat) : Int)).toNat ((s.data.size : Int)).toNat), ⟨h1, ?_, ?_, ?_⟩, ?_, ?_⟩
          · show (bs (subS s _ _)).length ≤ _; rw [sub_rest s _ _ hx]; simp <;> omega
          · simp only [List.length_append, hacc]; rfl
          · show cutsR ps (bs s0) = (cutsR (ps.drop (i + 1)) (bs (subS s _ _))).map _; rw [sub_rest s _ _ hx, heq, hst, hcut]; simp only [Option.map_map]; exact congrArg (fun g => Option.map g _) (funext fun y => by simp)
          · show ps.length - (i + 1) < ps.length - i; omega
          · refine rc_slots [0, 3] rfl rfl rfl (fun l e => by cases e) (by decide) (by decide) rfl rfl (wr_of rfl) ⟨⟨_, rfl, .string _⟩, ⟨_, rfl, .sl _ _ _ _ _ rfl⟩, ⟨_, rfl, ?_⟩, slot_int rfl (by rw [wrapN (by omega) (by omega)]; omega), trivial⟩ ⟨⟨by decide, _, rfl, .same (intV_plain _)⟩, ⟨by decide, _, rfl, ?_⟩, trivial⟩ .nil
            · have : (l ++ [(bs s).take (k)]).length = l.length + 1 := by simp
              show RV _ _ (.slice _ ((l ++ [_]).length + 1) U)
              rw [this]
              exact .sl _ _ _ _ _ rfl
            · refine ro_eq ?_ (strs_plain _)
              show List.take ((l.length + 1) * 1) ((a :: l).map str) ++ [Value.string (subS s (Int.toNat 0) (((frontN (bs s) : Nat) : Int)).toNat)] = _
              rw [sub_take s _ _ hx, List.take_of_length_le (by simp)]
              show _ = ((a :: l) ++ [_]).map str
              rw [List.map_append]; rfl
        · have hcut : Pr.nm.cut (bs s) = none := by have : (front (bs s)).isSome = false := h3; simpa [Pr.cut] using this
          have hn : cutsR ps (bs s0) = none := by rw [heq, hst, hcut]; rfl
          refine And.intro rfl (rc_end (rc_slots [] rfl rfl rfl (fun l e => by cases e) (by decide) (by decide) rfl rfl (wr_of rfl) (d := 7) (d2 := 0) (lv := [(4, .slice none 0 0), (5, .bool false)]) (bs := []) (W := []) (m := 0) (df := []) ⟨⟨_, rfl, plain_rv 8 rfl⟩, ⟨_, rfl, plain_rv 8 rfl⟩, trivial⟩ trivial .nil) (fun f => ?_))
          exact ⟨_, _, _, .inr ⟨hn, rfl⟩⟩
      | rest =>
        rw [hp] at hst hsd
        refine Exists.intro (-2 : Int) (And.intro hsd ?_)
        refine And.intro (shortB_of (by omega)) ?_
        refine ifK (fun h3 => ?_) (fun h3 => ?_)
        · have hcut : Pr.rest.cut (bs s) = some (bs s).length := by have h3 : texts (bs s) = true := h3; simp [Pr.cut, h3]
          have hx : (s.data.size : Int) = ((bs s).length : Nat) := by rw [bs_size]
          refine ifK (fun h5 => absurd h5 (by simp)) (fun _ => ?_)
          refine And.intro (by rw [hx]; simp only [inLH, bs_size, Bool.and_eq_true, decide_eq_true_eq] <;> omega) ?_
          refine And.intro (by have hT : (Try.prog.types[9]).size = 1 := (by kernel_rfl); have hB : (Try.prog.types[9]).bytes = 16 := (by kernel_rfl); have hl : l.length + 1 = i := hacc; simp [oneL, Value.oneCell', hT, hB]; omega) ?_
          refine And.intro (by rw [hx]; simp only [inLH, bs_size, Bool.and_eq_true, decide_eq_true_eq] <;> omega) ?_
          refine ⟨(i + 1, (a :: l) ++ [(bs s).take ((bs s).length)], subS s ((s.data.size : Int)).toNat ((s.data.size : Int)).toNat), ⟨h1, ?_, ?_, ?_⟩, ?_, ?_⟩
          · show (bs (subS s _ _)).length ≤ _; rw [sub_rest s _ _ hx]; simp <;> omega
          · simp only [List.length_append, hacc]; rfl
          · show cutsR ps (bs s0) = (cutsR (ps.drop (i + 1)) (bs (subS s _ _))).map _; rw [sub_rest s _ _ hx, heq, hst, hcut]; simp only [Option.map_map]; exact congrArg (fun g => Option.map g _) (funext fun y => by simp)
          · show ps.length - (i + 1) < ps.length - i; omega
          · refine rc_slots [0, 3] rfl rfl rfl (fun l e => by cases e) (by decide) (by decide) rfl rfl (wr_of rfl) ⟨⟨_, rfl, .string _⟩, ⟨_, rfl, .sl _ _ _ _ _ rfl⟩, ⟨_, rfl, ?_⟩, slot_int rfl (by rw [wrapN (by omega) (by omega)]; omega), trivial⟩ ⟨⟨by decide, _, rfl, .same (intV_plain _)⟩, ⟨by decide, _, rfl, ?_⟩, trivial⟩ .nil
            · have : (l ++ [(bs s).take ((bs s).length)]).length = l.length + 1 := by simp
              show RV _ _ (.slice _ ((l ++ [_]).length + 1) U)
              rw [this]
              exact .sl _ _ _ _ _ rfl
            · refine ro_eq ?_ (strs_plain _)
              show List.take ((l.length + 1) * 1) ((a :: l).map str) ++ [Value.string (subS s (Int.toNat 0) ((s.data.size : Int)).toNat)] = _
              rw [sub_take s _ _ hx, List.take_of_length_le (by simp)]
              show _ = ((a :: l) ++ [_]).map str
              rw [List.map_append]; rfl
        · have hcut : Pr.rest.cut (bs s) = none := by have h3 : texts (bs s) = false := h3; simp [Pr.cut, h3]
          have hn : cutsR ps (bs s0) = none := by rw [heq, hst, hcut]; rfl
          refine And.intro rfl (rc_end (rc_slots [] rfl rfl rfl (fun l e => by cases e) (by decide) (by decide) rfl rfl (wr_of rfl) (d := 7) (d2 := 0) (lv := [(4, .slice none 0 0), (5, .bool false)]) (bs := []) (W := []) (m := 0) (df := []) ⟨⟨_, rfl, plain_rv 8 rfl⟩, ⟨_, rfl, plain_rv 8 rfl⟩, trivial⟩ trivial .nil) (fun f => ?_))
          exact ⟨_, _, _, .inr ⟨hn, rfl⟩⟩
      | all =>
        rw [hp] at hst hsd
        refine Exists.intro (-3 : Int) (And.intro hsd ?_)
        have hcut : Pr.all.cut (bs s) = some (bs s).length := rfl
        have hx : (s.data.size : Int) = ((bs s).length : Nat) := by rw [bs_size]
        refine ifK (fun h5 => absurd h5 (by simp)) (fun _ => ?_)
        refine And.intro (by rw [hx]; simp only [inLH, bs_size, Bool.and_eq_true, decide_eq_true_eq] <;> omega) ?_
        refine And.intro (by have hT : (Try.prog.types[9]).size = 1 := (by kernel_rfl); have hB : (Try.prog.types[9]).bytes = 16 := (by kernel_rfl); have hl : l.length + 1 = i := hacc; simp [oneL, Value.oneCell', hT, hB]; omega) ?_
        refine And.intro (by rw [hx]; simp only [inLH, bs_size, Bool.and_eq_true, decide_eq_true_eq] <;> omega) ?_
        refine ⟨(i + 1, (a :: l) ++ [(bs s).take ((bs s).length)], subS s ((s.data.size : Int)).toNat ((s.data.size : Int)).toNat), ⟨h1, ?_, ?_, ?_⟩, ?_, ?_⟩
        · show (bs (subS s _ _)).length ≤ _; rw [sub_rest s _ _ hx]; simp <;> omega
        · simp only [List.length_append, hacc]; rfl
        · show cutsR ps (bs s0) = (cutsR (ps.drop (i + 1)) (bs (subS s _ _))).map _; rw [sub_rest s _ _ hx, heq, hst, hcut]; simp only [Option.map_map]; exact congrArg (fun g => Option.map g _) (funext fun y => by simp)
        · show ps.length - (i + 1) < ps.length - i; omega
        · refine rc_slots [0, 3] rfl rfl rfl (fun l e => by cases e) (by decide) (by decide) rfl rfl (wr_of rfl) ⟨⟨_, rfl, .string _⟩, ⟨_, rfl, .sl _ _ _ _ _ rfl⟩, ⟨_, rfl, ?_⟩, slot_int rfl (by rw [wrapN (by omega) (by omega)]; omega), trivial⟩ ⟨⟨by decide, _, rfl, .same (intV_plain _)⟩, ⟨by decide, _, rfl, ?_⟩, trivial⟩ .nil
          · have : (l ++ [(bs s).take ((bs s).length)]).length = l.length + 1 := by simp
            show RV _ _ (.slice _ ((l ++ [_]).length + 1) U)
            rw [this]
            exact .sl _ _ _ _ _ rfl
          · refine ro_eq ?_ (strs_plain _)
            show List.take ((l.length + 1) * 1) ((a :: l).map str) ++ [Value.string (subS s (Int.toNat 0) ((s.data.size : Int)).toNat)] = _
            rw [sub_take s _ _ hx, List.take_of_length_le (by simp)]
            show _ = ((a :: l) ++ [_]).map str
            rw [List.map_append]; rfl
      | sz k =>
        rw [hp] at hst hsd
        refine Exists.intro (k : Int) (And.intro hsd ?_)
        refine ifK (fun h3 => ?_) (fun h3 => ?_)
        · have h3 : ¬ k ≤ (bs s).length := by have := of_decide_eq_true h3; rw [bs_size] at this; omega
          have hcut : (Pr.sz k).cut (bs s) = none := by simp [Pr.cut, h3]
          have hn : cutsR ps (bs s0) = none := by rw [heq, hst, hcut]; rfl
          refine And.intro rfl (rc_end (rc_slots [] rfl rfl rfl (fun l e => by cases e) (by decide) (by decide) rfl rfl (wr_of rfl) (d := 7) (d2 := 0) (lv := [(4, .slice none 0 0), (5, .bool false)]) (bs := []) (W := []) (m := 0) (df := []) ⟨⟨_, rfl, plain_rv 8 rfl⟩, ⟨_, rfl, plain_rv 8 rfl⟩, trivial⟩ trivial .nil) (fun f => ?_))
          exact ⟨_, _, _, .inr ⟨hn, rfl⟩⟩
        · have h3 : k ≤ (bs s).length := by have := of_decide_eq_false h3; rw [bs_size] at this; omega
          have hcut : (Pr.sz k).cut (bs s) = some k := by simp [Pr.cut, h3]
          have hx : (k : Int) = (k : Nat) := rfl
          refine And.intro (by rw [hx]; simp only [inLH, bs_size, Bool.and_eq_true, decide_eq_true_eq] <;> omega) ?_
          refine And.intro (by have hT : (Try.prog.types[9]).size = 1 := (by kernel_rfl); have hB : (Try.prog.types[9]).bytes = 16 := (by kernel_rfl); have hl : l.length + 1 = i := hacc; simp [oneL, Value.oneCell', hT, hB]; omega) ?_
          refine And.intro (by rw [hx]; simp only [inLH, bs_size, Bool.and_eq_true, decide_eq_true_eq] <;> omega) ?_
          refine ⟨(i + 1, (a :: l) ++ [(bs s).take (k)], subS s ((k : Int)).toNat ((s.data.size : Int)).toNat), ⟨h1, ?_, ?_, ?_⟩, ?_, ?_⟩
          · show (bs (subS s _ _)).length ≤ _; rw [sub_rest s _ _ hx]; simp <;> omega
          · simp only [List.length_append, hacc]; rfl
          · show cutsR ps (bs s0) = (cutsR (ps.drop (i + 1)) (bs (subS s _ _))).map _; rw [sub_rest s _ _ hx, heq, hst, hcut]; simp only [Option.map_map]; exact congrArg (fun g => Option.map g _) (funext fun y => by simp)
          · show ps.length - (i + 1) < ps.length - i; omega
          · refine rc_slots [0, 3] rfl rfl rfl (fun l e => by cases e) (by decide) (by decide) rfl rfl (wr_of rfl) ⟨⟨_, rfl, .string _⟩, ⟨_, rfl, .sl _ _ _ _ _ rfl⟩, ⟨_, rfl, ?_⟩, slot_int rfl (by rw [wrapN (by omega) (by omega)]; omega), trivial⟩ ⟨⟨by decide, _, rfl, .same (intV_plain _)⟩, ⟨by decide, _, rfl, ?_⟩, trivial⟩ .nil
            · have : (l ++ [(bs s).take (k)]).length = l.length + 1 := by simp
              show RV _ _ (.slice _ ((l ++ [_]).length + 1) U)
              rw [this]
              exact .sl _ _ _ _ _ rfl
            · refine ro_eq ?_ (strs_plain _)
              show List.take ((l.length + 1) * 1) ((a :: l).map str) ++ [Value.string (subS s (Int.toNat 0) ((k : Int)).toNat)] = _
              rw [sub_take s _ _ hx, List.take_of_length_le (by simp)]
              show _ = ((a :: l) ++ [_]).map str
              rw [List.map_append]; rfl
    · have h1 : ¬ i < ps.length := by have := of_decide_eq_false h1; omega
      have hc : cutsR ps (bs s0) = some (a :: l, bs s) := by rw [heq, List.drop_eq_nil_of_le (by omega)]; simp [cutsR]
      have hem : (bs s).isEmpty = (s.data.toList == []) := by show _ = (bs s == []); cases bs s <;> rfl
      refine And.intro rfl (rc_end (rc_slots [1] rfl rfl rfl (fun l e => by cases e) (by decide) (by decide) rfl rfl (wr_of rfl) (d := 7) (d2 := 1) (lv := [(1, .string s), (7, .slice (some ⟨0, 0, none⟩) (l.length + 1) U)]) (bs := [(0, .cells ((a :: l).map str) 9)]) (W := []) (m := 1) (df := []) ⟨⟨_, rfl, .string _⟩, ⟨_, rfl, .sl _ _ _ _ _ rfl⟩, trivial⟩ ⟨⟨by decide, _, rfl, .same (strs_plain _)⟩, trivial⟩ .nil) (fun f => ?_))
      exact ⟨_, _, _, .inl ⟨a :: l, bs s, 0, hc, by rw [hem]; rfl, rfl, by decide⟩⟩
end Go.Proofs.Ytmpaeabkdhjamaa
/- DERIVED. Data: the document's Parts, as a contract. -/
namespace Go.Proofs.Ytmpaeabkdhjamaa
open Go Go.RowKit
def prT (t : Int) : List Pr := if t = 1 then [.sz 4] else if t = 28 then [.sz 16] else if t = 2 then [.nm] else if t = 5 then [.nm] else if t = 12 then [.nm] else if t = 15 then [.sz 2, .nm] else if t = 6 then [.nm, .nm, .sz 20] else if t = 16 then [.rest] else [.all]
theorem prT_form (t : Int) : formL t = (prT t).map Pr.i ∧ 0 < (prT t).length ∧ (prT t).length < 1000 := by
  unfold formL prT
  split; · exact ⟨rfl, by decide, by decide⟩
  split; · exact ⟨rfl, by decide, by decide⟩
  split; · exact ⟨rfl, by decide, by decide⟩
  split; · exact ⟨rfl, by decide, by decide⟩
  split; · exact ⟨rfl, by decide, by decide⟩
  split; · exact ⟨rfl, by decide, by decide⟩
  split; · exact ⟨rfl, by decide, by decide⟩
  split; · exact ⟨rfl, by decide, by decide⟩
  exact ⟨rfl, by decide, by decide⟩
/-- What the document's Parts tells. -/
def rpO (t : Int) (l : Bs) : List Bs := match cutsR (prT t) l with | some x => x.1 | none => []
def rpR (t : Int) (l : Bs) : Bs := match cutsR (prT t) l with | some x => x.2 | none => []
def rpOut (t : Int) (s : ByteArray) (H : Tr AObj) (n : Nat) : Res := .ret (.tuple #[.slice (some ⟨n, 0, none⟩) (rpO t (bs s)).length U, .bool (rpR t (bs s)).isEmpty]) (H.set n (some (.cells ((rpO t (bs s)).map str) 9))) (n + 1) []
theorem callOK_parts (t : Int) (s : ByteArray) (hs : (bs s).length ≤ 100000000) (H : Tr AObj) (n : Nat) :
    ((cutsR (prT t) (bs s)).isSome = true → CallOK Try.prog 0 62 [.int .i64 t, .string s] H n (rpOut t s H n)) ∧
    ((cutsR (prT t) (bs s)).isSome = false → CallOK Try.prog 0 62 [.int .i64 t, .string s] H n (.ret (.tuple #[.slice none 0 0, .bool false]) H n [])) := by
  obtain ⟨p1, p2, p3⟩ := prT_form t
  obtain ⟨r, hF, hP⟩ := parts_fn t (prT t) p2 p3 p1 s hs
  unfold paP at hP
  obtain ⟨H', m, wr, ⟨out, rest, b, q1, rfl, q3, q4⟩ | ⟨q1, rfl⟩⟩ := hP
  · refine ⟨fun _ => ?_, fun h => (by rw [q1] at h; cases h)⟩
    have e1 : rpO t (bs s) = out := by unfold rpO; rw [q1]
    have e2 : rpR t (bs s) = rest := by unfold rpR; rw [q1]
    unfold rpOut
    rw [e1, e2]
    exact callOK_fresh1 (fun n => .tuple #[.slice (some ⟨n, 0, none⟩) out.length U, .bool rest.isEmpty]) hF rfl q3 q4 (strs_plain _) (fun n => .tuple _ _ (.cons _ _ _ _ (.sl _ _ _ _ _ (tau_one _ _)) (.cons _ _ _ _ (.bool _) .nil))) H n
  · exact ⟨fun h => (by rw [q1] at h; cases h), fun _ => callOK_pure hF rfl rfl H n⟩
def ct_rparts : Ct Try.prog 0 where
  f := 62
  res l H n := match l with
    | [.int .i64 t, .string s] => bif s.data.size.ble 100000000 then (bif (cutsR (prT t) (bs s)).isSome then rpOut t s H n else .ret (.tuple #[.slice none 0 0, .bool false]) H n []) else .bad "long" []
    | _ => .bad "arguments" []
  ok l H n := by
    split
    · rename_i t s
      cases hs : s.data.size.ble 100000000 with
      | false => trivial
      | true =>
        obtain ⟨c1, c2⟩ := callOK_parts t s (by rw [← bs_size]; exact Nat.le_of_ble_eq_true hs) H n
        cases h1 : (cutsR (prT t) (bs s)).isSome with
        | true => exact c1 h1
        | false => exact c2 h1
    · trivial
  ck l H n K := match l with
    | [.int .i64 t, .string s] => s.data.size.ble 100000000 = true ∧ brK (cutsR (prT t) (bs s)).isSome (K (rpOut t s H n)) (K (.ret (.tuple #[.slice none 0 0, .bool false]) H n []))
    | _ => False
  imp l H n K h := by
    split at h
    · rename_i t s
      obtain ⟨h0, h⟩ := h
      simp only [h0, cond_true]
      cases h1 : (cutsR (prT t) (bs s)).isSome with
      | true => rw [h1] at h; exact h
      | false => rw [h1] at h; exact h
    · exact h.elim

def Pt.pr : Pt → Pr
  | .nm => .nm
  | .rest => .rest
  | .sz k => .sz k
theorem Pt.pr_cut (p : Pt) (l : Bs) : p.pr.cut l = p.cut l := by cases p <;> rfl
/-- The document's parts are those of split. -/
theorem cutsR_known {t : Int} {ps : List Pt} (h : ptsT t = some ps) (l : Bs) : cutsR (prT t) l = (cuts ps l).map fun x => (x.1.map (·.1), x.2) := by
  have key : ∀ (ps : List Pt) (l : Bs), cutsR (ps.map Pt.pr) l = (cuts ps l).map fun x => (x.1.map (·.1), x.2) := by
    intro ps
    induction ps with
    | nil => intro l; rfl
    | cons p ps ih =>
      intro l
      simp only [List.map_cons, cutsR, cuts, Pt.pr_cut]
      cases p.cut l with
      | none => rfl
      | some n =>
        simp only []
        rw [ih, Option.map_map, Option.map_map]; rfl
  suffices hpr : prT t = ps.map Pt.pr by
    rw [hpr]; exact key ps l
  unfold ptsT at h
  unfold prT
  by_cases h1 : t = 1
  · subst h1; cases h; rfl
  by_cases h2 : t = 28
  · subst h2; cases h; rfl
  by_cases h3 : t = 2
  · subst h3; cases h; rfl
  by_cases h4 : t = 5
  · subst h4; cases h; rfl
  by_cases h5 : t = 12
  · subst h5; cases h; rfl
  by_cases h6 : t = 15
  · subst h6; cases h; rfl
  by_cases h7 : t = 6
  · subst h7; cases h; rfl
  by_cases h8 : t = 16
  · subst h8; cases h; rfl
  · exfalso
    rw [show (t == 1) = false by simpa using h1, show (t == 28) = false by simpa using h2, show (t == 2) = false by simpa using h3, show (t == 5) = false by simpa using h4, show (t == 12) = false by simpa using h5, show (t == 15) = false by simpa using h6, show (t == 6) = false by simpa using h7, show (t == 16) = false by simpa using h8] at h
    cases h
theorem prT_none {t : Int} (h : ptsT t = none) : prT t = [.all] := by
  unfold ptsT at h
  unfold prT
  by_cases h1 : t = 1
  · subst h1; cases h
  by_cases h2 : t = 28
  · subst h2; cases h
  by_cases h3 : t = 2
  · subst h3; cases h
  by_cases h4 : t = 5
  · subst h4; cases h
  by_cases h5 : t = 12
  · subst h5; cases h
  by_cases h6 : t = 15
  · subst h6; cases h
  by_cases h7 : t = 6
  · subst h7; cases h
  by_cases h8 : t = 16
  · subst h8; cases h
  · rw [if_neg h1, if_neg h2, if_neg h3, if_neg h4, if_neg h5, if_neg h6, if_neg h7, if_neg h8]
theorem fits_ref (t : Int) (l : Bs) : ((cutsR (prT t) l).isSome && (rpR t l).isEmpty) = fitsD t l := by
  cases hp : ptsT t with
  | none =>
    unfold fitsD rpR
    rw [hp, prT_none hp]
    simp [cutsR, Pr.cut]
  | some ps =>
    have e1 : outT t l = cuts ps l := by unfold outT; rw [hp]
    unfold fitsD rpR outR
    rw [hp, cutsR_known hp, e1]
    cases hc : cuts ps l with
    | none => rfl
    | some x => rfl
noncomputable def tbF3 : Tb Try.prog 0 := tbOf mixed [ct_rparts]
set_option maxRecDepth 100000 in
theorem rcheck_fn (t : Int) (s : ByteArray) (hs : (bs s).length ≤ 100000000) : ∃ r, FnS Try.prog 0 37 [.int .i64 t, .string s] .e 0 r ∧ ∃ H m wr, r = .ret (.int .i64 (checkD t (bs s))) H m wr := by
  have hsB : s.data.size.ble 100000000 = true := by rw [bs_size]; exact Nat.ble_eq_true_of_le hs
  refine fn_sx mixed tbF3 [] Try.func37 (c := bodyOf Try.f37) (by kernel_rfl) ?_
  unfold checkD
  rw [← fits_ref]
  refine ifK (fun h1 => ?_) (fun h1 => ?_)
  · rw [if_pos (.inl (of_decide_eq_true h1))]; exact ⟨_, _, _, rfl⟩
  have h1 := of_decide_eq_false h1
  refine ifK (fun h2 => ?_) (fun h2 => ?_)
  · rw [if_pos (.inr (of_decide_eq_true h2))]; exact ⟨_, _, _, rfl⟩
  have h2 := of_decide_eq_false h2
  rw [if_neg (by omega)]
  refine ifK (fun h3 => ?_) (fun h3 => ?_)
  · have h3 := of_decide_eq_true h3
    rw [bs_size] at h3
    rw [if_pos (by omega)]; exact ⟨_, _, _, rfl⟩
  have h3 := of_decide_eq_false h3
  rw [bs_size] at h3
  rw [if_neg (by omega)]
  refine And.intro hsB ?_
  refine ifK (fun h5 => ?_) (fun h5 => ?_)
  · rw [h5]
    refine ifK (fun h6 => ?_) (fun h6 => ?_)
    · rw [show (rpR t (bs s)).isEmpty = false by simpa using h6]; exact ⟨_, _, _, rfl⟩
    · rw [show (rpR t (bs s)).isEmpty = true by simpa using h6]; exact ⟨_, _, _, rfl⟩
  · rw [h5]; exact ⟨_, _, _, rfl⟩
/-- A function of a number and a string that was walked, the string of at most 100 million bytes. -/
def Ct.intStr8 (f : FuncId) (out : Int → ByteArray → Value) (hp : ∀ t s, plainV 8 (out t s) = true) (ok : ∀ t s, (bs s).length ≤ 100000000 → ∃ H m wr, FnS Try.prog 0 f [.int .i64 t, .string s] .e 0 (.ret (out t s) H m wr)) : Ct Try.prog 0 where
  f := f
  res l H n := match l with | [.int .i64 t, .string s] => bif s.data.size.ble 100000000 then .ret (out t s) H n [] else .bad "long" [] | _ => .bad "arguments" []
  ok l H n := by
    split
    · rename_i t s
      cases hs : s.data.size.ble 100000000 with
      | false => trivial
      | true => obtain ⟨_, _, _, h⟩ := ok t s (by rw [← bs_size]; exact Nat.le_of_ble_eq_true hs); exact callOK_pure h rfl (hp t s) H n
    · trivial
  ck l H n K := match l with | [.int .i64 t, .string s] => s.data.size.ble 100000000 = true ∧ K (.ret (out t s) H n []) | _ => False
  imp l H n K h := by
    split at h
    · obtain ⟨h1, h2⟩ := h
      simp only [h1, cond_true]; exact h2
    · exact h.elim
def ct_rrdcheck : Ct Try.prog 0 := Ct.intStr8 37 (fun t s => .int .i64 (checkD t (bs s))) (fun _ _ => rfl) (fun t s hs => by
  obtain ⟨r, h, H, m, wr, rfl⟩ := rcheck_fn t s hs
  exact ⟨H, m, wr, h⟩)
end Go.Proofs.Ytmpaeabkdhjamaa
/- DERIVED. Data: what fits, by the document. -/
namespace Go.Proofs.Ytmpaeabkdhjamaa
open Go Go.RowKit
theorem front_len {l : Bs} {k : Nat} (h : front l = some k) : k ≤ 255 := by
  have hle := front_le h
  unfold front at h
  split at h
  · rename_i j hj
    split at h
    · rename_i hl
      cases h
      have := labels_len hl
      rw [List.length_take] at this; omega
    · cases h
  · cases h
def Pt.small : Pt → Bool
  | .nm => true
  | .rest => false
  | .sz k => k.ble 255
theorem cuts_len : ∀ (ps : List Pt) (l : Bs) (o : List (Bs × Bool)) (r : Bs), ps.all Pt.small = true → cuts ps l = some (o, r) → l.length ≤ 255 * ps.length + r.length
  | [], l, o, r, _, h => by simp only [cuts, Option.some.injEq, Prod.mk.injEq] at h; obtain ⟨_, rfl⟩ := h; omega
  | p :: ps, l, o, r, ha, h => by
    simp only [List.all_cons, Bool.and_eq_true] at ha
    simp only [cuts] at h
    cases hc : p.cut l with
    | none => rw [hc] at h; cases h
    | some n =>
      rw [hc] at h
      simp only [] at h
      obtain ⟨⟨o', r'⟩, h1, h2⟩ := Option.map_eq_some_iff.1 h
      simp only [Prod.mk.injEq] at h2
      obtain ⟨_, rfl⟩ := h2
      have ih := cuts_len ps _ _ _ ha.2 h1
      have hn : n ≤ 255 := by
        cases p with
        | nm => exact front_len hc
        | rest => cases ha.1
        | sz k =>
          simp only [Pt.cut] at hc
          split at hc <;> cases hc
          exact Nat.le_of_ble_eq_true ha.1
      simp only [List.length_cons, List.length_drop] at ih ⊢
      omega
theorem fits_len {t : Int} {ps : List Pt} {l : Bs} (hp : ptsT t = some ps) (hs : ps.all Pt.small = true) (hl : ps.length ≤ 3) (h : fitsD t l = true) : l.length ≤ 765 := by
  obtain ⟨o, h1, _⟩ := fits_out hp h
  have := cuts_len ps l o [] hs h1
  simp only [List.length_nil] at this
  omega
theorem check_fits {t : Int} {ps : List Pt} {l : Bs} (hp : ptsT t = some ps) (hs : ps.all Pt.small = true) (hl : ps.length ≤ 3) (h0 : 0 ≤ t ∧ t ≤ 65535) (h : fitsD t l = true) : checkD t l = 0 := by
  have := fits_len hp hs hl h
  unfold checkD
  rw [if_neg (by omega), if_neg (by omega), h]; rfl
theorem check_not {t : Int} {l : Bs} (h : fitsD t l = false) : checkD t l ≠ 0 := fun e => by
  rw [(check_zero e).2.2.2] at h; cases h
theorem fits_no {t : Int} {l : Bs} (h : (cutsR (prT t) l).isSome = false) : fitsD t l = false := by rw [← fits_ref, h]; rfl
theorem fits_rest {t : Int} {l : Bs} (h : (rpR t l).isEmpty = false) : fitsD t l = false := by rw [← fits_ref, h, Bool.and_false]
theorem fits_yes {t : Int} {l : Bs} (h : (cutsR (prT t) l).isSome = true) (h2 : (rpR t l).isEmpty = true) : fitsD t l = true := by rw [← fits_ref, h, h2]; rfl
theorem rpO_of {t : Int} {ps : List Pt} {l : Bs} {o : List (Bs × Bool)} {r : Bs} (hp : ptsT t = some ps) (h : outT t l = some (o, r)) : rpO t l = o.map (·.1) := by
  unfold rpO
  unfold outT at h
  rw [hp] at h
  have h : cuts ps l = some (o, r) := h
  rw [cutsR_known hp, h]; rfl
theorem size8 {s : ByteArray} (h : (bs s).length ≤ 100000000) : s.data.size.ble 100000000 = true := by rw [bs_size]; exact Nat.ble_eq_true_of_le h

noncomputable def tbF5 : Tb Try.prog 0 := tbOf mixed [ct_rparts, ct_rrdcheck, ct_form, ct_rlower]
end Go.Proofs.Ytmpaeabkdhjamaa
/- DERIVED. Data: the document's Lower. -/
namespace Go.Proofs.Ytmpaeabkdhjamaa
open Go Go.RowKit
def lowI (x : Int × Bs) : Bs := if x.1 = -1 then lower x.2 else x.2
theorem lowI_len (x : Int × Bs) : (lowI x).length = x.2.length := by unfold lowI; split <;> simp [lower_len]
def sumZ (Z : List (Int × Bs)) : Nat := (Z.flatMap fun p => p.2).length
theorem sumZ_at (Z : List (Int × Bs)) (p : Int × Bs) (h : p ∈ Z) : p.2.length ≤ sumZ Z := by
  unfold sumZ
  induction Z with
  | nil => cases h
  | cons q r ih =>
    rw [List.flatMap_cons, List.length_append]
    rcases List.mem_cons.1 h with e | e
    · rw [e]; omega
    · have := ih e; omega
theorem lowI_sum (Z : List (Int × Bs)) (i : Nat) : ((Z.take i).flatMap lowI).length ≤ sumZ Z := by
  unfold sumZ
  induction Z generalizing i with
  | nil => simp
  | cons p r ih =>
    cases i with
    | zero => simp
    | succ i =>
      have := ih i
      simp only [List.take_succ_cons, List.flatMap_cons, List.length_append, lowI_len]; omega
theorem lowI_take (Z : List (Int × Bs)) (i : Nat) (h : i < Z.length) : (Z.take (i + 1)).flatMap lowI = (Z.take i).flatMap lowI ++ lowI Z[i] := by
  rw [List.take_succ_eq_append_getElem h, List.flatMap_append]; simp only [List.flatMap_cons, List.flatMap_nil, List.append_nil]
def zi (x : Int × Bs) : Value := intV x.1
def zs (x : Int × Bs) : Value := str x.2
theorem zi_plain (l : List (Int × Bs)) : plainL (l.map zi) = true := by simp [plainL, plainV, zi, intV]
theorem zs_plain (l : List (Int × Bs)) : plainL (l.map zs) = true := by simp [plainL, plainV, zs, str]
def rlS (Z : List (Int × Bs)) (x : Nat × ByteArray) (f : Nat → Option Value) : Fs :=
  ⟨slots 7 [(5, .slice (some ⟨0, 0, none⟩) Z.length Z.length), (6, .slice (some ⟨1, 0, none⟩) Z.length U), (8, .string x.2), (9, .int .i64 x.1)] f, heap 2 [(0, .cells (Z.map zi) 3), (1, .cells (Z.map zs) 9)], 2, [], []⟩
set_option maxRecDepth 100000 in
theorem rlower_loop (Z : List (Int × Bs)) (hl : Z.length < 1000) (hs : sumZ Z ≤ 1000000000) {s0 : Fs} {K : Ex → Fs → Prop} (h0 : ∃ f, RcM Try.prog 0 0 (2 + (Try.f40.ntmps - 2)) none s0 (rlS Z (0, ⟨#[]⟩) f))
    (hK : ∀ f, K (.exit 0) ⟨slots 7 [(8, str (Z.flatMap lowI))] f, heap 0 [], 0, [], []⟩) : LW Try.prog 0 0 (2 + (Try.f40.ntmps - 2)) none (loopAt Try.f40 0) s0 K := by
  refine loop_goX (rlS Z) (fun x => Z.length - x.1) (fun x => x.1 ≤ Z.length ∧ bs x.2 = (Z.take x.1).flatMap lowI) (0, ⟨#[]⟩) ⟨Nat.zero_le _, rfl⟩ h0 ?_
  rintro ⟨i, o⟩ f ⟨hi, ho⟩
  have hi : i ≤ Z.length := hi
  have ho : bs o = (Z.take i).flatMap lowI := ho
  refine sx_ok tbF5 [0, 1] 0 _ none mixed _ _ _ ?_
  refine ifK (fun h1 => ?_) (fun h1 => ?_)
  · have h1 : i < Z.length := by have := of_decide_eq_true h1; omega
    have hsum := sumZ_at Z Z[i] (List.getElem_mem h1)
    have hol : (bs o).length ≤ sumZ Z := by rw [ho]; exact lowI_sum Z i
    refine ifK (fun _ => ?_) (fun h2 => absurd h2 (by simp [inI]; omega))
    refine Exists.intro Z[i].1 (And.intro (by show (Z.map zi)[0 + ((i : Nat) : Int).toNat * 1]? = _; rw [Int.toNat_natCast, Nat.zero_add, Nat.mul_one]; simp [h1, zi, intV]) ?_)
    have hstr : (Z.map zs)[0 + ((i : Nat) : Int).toNat * 1]? = some (.string ⟨Z[i].2.toArray⟩) := by rw [Int.toNat_natCast, Nat.zero_add, Nat.mul_one]; simp [h1, zs, str]
    refine ifK (fun h3 => ?_) (fun h3 => ?_)
    · have h3 : Z[i].1 = -1 := by simpa using h3
      refine ifK (fun _ => ?_) (fun h2 => absurd h2 (by simp [inI]; omega))
      refine Exists.intro ⟨Z[i].2.toArray⟩ (And.intro hstr ?_)
      refine And.intro (shortB_of (by rw [bs_mk]; omega)) ?_
      refine And.intro (catOk_of (by rw [bs_mk (lower _), lower_len, bs_mk Z[i].2]; have e9 : (bs (i, o).2).length = (bs o).length := rfl; omega)) ?_
      refine ⟨(i + 1, catS o ⟨(lower (bs ⟨Z[i].2.toArray⟩)).toArray⟩), ⟨h1, ?_⟩, ?_, ?_⟩
      · show bs (catS _ _) = _
        rw [bs_cat, bs_mk (lower _), bs_mk Z[i].2, ho]; show _ = (Z.take (i + 1)).flatMap lowI; rw [lowI_take Z i h1]
        unfold lowI; rw [if_pos h3]
      · show Z.length - (i + 1) < Z.length - i; omega
      · exact rc_slots [0, 1] rfl rfl rfl (fun l e => by cases e) (by decide) (by decide) rfl rfl (wr_of rfl) ⟨⟨_, rfl, .sl _ _ _ _ _ rfl⟩, ⟨_, rfl, .sl _ _ _ _ _ rfl⟩, ⟨_, rfl, .string _⟩, slot_int rfl (by rw [wrapN (by omega) (by omega)]; omega), trivial⟩ ⟨⟨by decide, _, rfl, (by first | exact .same (zi_plain _) | exact .sameW (zi_plain _))⟩, ⟨by decide, _, rfl, (by first | exact .same (zs_plain _) | exact .sameW (zs_plain _))⟩, trivial⟩ .nil
    · have h3 : ¬ Z[i].1 = -1 := by simpa using h3
      refine ifK (fun _ => ?_) (fun h2 => absurd h2 (by simp [inI]; omega))
      refine Exists.intro ⟨Z[i].2.toArray⟩ (And.intro hstr ?_)
      refine And.intro (catOk_of (by rw [bs_mk Z[i].2]; have e9 : (bs (i, o).2).length = (bs o).length := rfl; omega)) ?_
      refine ⟨(i + 1, catS o ⟨Z[i].2.toArray⟩), ⟨h1, ?_⟩, ?_, ?_⟩
      · show bs (catS _ _) = _
        rw [bs_cat, bs_mk Z[i].2, ho]; show _ = (Z.take (i + 1)).flatMap lowI; rw [lowI_take Z i h1]
        unfold lowI; rw [if_neg h3]
      · show Z.length - (i + 1) < Z.length - i; omega
      · exact rc_slots [0, 1] rfl rfl rfl (fun l e => by cases e) (by decide) (by decide) rfl rfl (wr_of rfl) ⟨⟨_, rfl, .sl _ _ _ _ _ rfl⟩, ⟨_, rfl, .sl _ _ _ _ _ rfl⟩, ⟨_, rfl, .string _⟩, slot_int rfl (by rw [wrapN (by omega) (by omega)]; omega), trivial⟩ ⟨⟨by decide, _, rfl, (by first | exact .same (zi_plain _) | exact .sameW (zi_plain _))⟩, ⟨by decide, _, rfl, (by first | exact .same (zs_plain _) | exact .sameW (zs_plain _))⟩, trivial⟩ .nil
  · have h1 : ¬ i < Z.length := by have := of_decide_eq_false h1; omega
    have hh : Value.string o = str (Z.flatMap lowI) := by rw [str_mk, ho, List.take_of_length_le (by omega)]
    refine And.intro rfl (rc_end (rc_slots [] rfl rfl rfl (fun l e => by cases e) (by decide) (by decide) rfl rfl (wr_of rfl) (d := 7) (d2 := 0) (lv := [(8, str (Z.flatMap lowI))]) (bs := []) (W := []) (m := 0) (df := []) ⟨⟨_, rfl, ?_⟩, trivial⟩ trivial .nil) hK)
    rw [← hh]; exact .string _

theorem zip_low : ∀ (ps : List Pt) (l : Bs) (o : List (Bs × Bool)) (r : Bs), cuts ps l = some (o, r) → (((ps.map Pt.pr).map Pr.i).zip (o.map (·.1))).flatMap lowI = o.flatMap lowP
  | [], l, o, r, h => by simp only [cuts, Option.some.injEq, Prod.mk.injEq] at h; obtain ⟨rfl, _⟩ := h; rfl
  | p :: ps, l, o, r, h => by
    simp only [cuts] at h
    cases hc : p.cut l with
    | none => rw [hc] at h; cases h
    | some n =>
      rw [hc] at h
      simp only [] at h
      obtain ⟨⟨o', r'⟩, h1, h2⟩ := Option.map_eq_some_iff.1 h
      simp only [Prod.mk.injEq] at h2
      obtain ⟨rfl, rfl⟩ := h2
      have ih := zip_low ps _ _ _ h1
      simp only [List.map_cons, List.zip_cons_cons, List.flatMap_cons, ih]
      congr 1
      unfold lowI lowP
      cases p with
      | nm => rfl
      | rest => rfl
      | sz k =>
        have hk : ¬ (Pr.sz k).i = -1 := by show ¬ ((k : Nat) : Int) = -1; omega
        exact (if_neg hk).trans rfl
theorem prT_some {t : Int} {ps : List Pt} (h : ptsT t = some ps) : prT t = ps.map Pt.pr := by
  unfold ptsT at h
  unfold prT
  by_cases h1 : t = 1
  · subst h1; cases h; rfl
  by_cases h2 : t = 28
  · subst h2; cases h; rfl
  by_cases h3 : t = 2
  · subst h3; cases h; rfl
  by_cases h4 : t = 5
  · subst h4; cases h; rfl
  by_cases h5 : t = 12
  · subst h5; cases h; rfl
  by_cases h6 : t = 15
  · subst h6; cases h; rfl
  by_cases h7 : t = 6
  · subst h7; cases h; rfl
  by_cases h8 : t = 16
  · subst h8; cases h; rfl
  · exfalso
    rw [show (t == 1) = false by simpa using h1, show (t == 28) = false by simpa using h2, show (t == 2) = false by simpa using h3, show (t == 5) = false by simpa using h4, show (t == 12) = false by simpa using h5, show (t == 15) = false by simpa using h6, show (t == 6) = false by simpa using h7, show (t == 16) = false by simpa using h8] at h
    cases h
/-- What is known of a type's parts. -/
theorem ptsT_case {t : Int} {ps : List Pt} (h : ptsT t = some ps) : (0 ≤ t ∧ t ≤ 65535) ∧ ((ps.all Pt.small = true ∧ ps.length ≤ 3) ∨ ps = [.rest]) := by
  unfold ptsT at h
  by_cases h1 : t = 1
  · subst h1; cases h; exact ⟨by decide, .inl ⟨rfl, by decide⟩⟩
  by_cases h2 : t = 28
  · subst h2; cases h; exact ⟨by decide, .inl ⟨rfl, by decide⟩⟩
  by_cases h3 : t = 2
  · subst h3; cases h; exact ⟨by decide, .inl ⟨rfl, by decide⟩⟩
  by_cases h4 : t = 5
  · subst h4; cases h; exact ⟨by decide, .inl ⟨rfl, by decide⟩⟩
  by_cases h5 : t = 12
  · subst h5; cases h; exact ⟨by decide, .inl ⟨rfl, by decide⟩⟩
  by_cases h6 : t = 15
  · subst h6; cases h; exact ⟨by decide, .inl ⟨rfl, by decide⟩⟩
  by_cases h7 : t = 6
  · subst h7; cases h; exact ⟨by decide, .inl ⟨rfl, by decide⟩⟩
  by_cases h8 : t = 16
  · subst h8; cases h; exact ⟨by decide, .inr rfl⟩
  · exfalso
    rw [show (t == 1) = false by simpa using h1, show (t == 28) = false by simpa using h2, show (t == 2) = false by simpa using h3, show (t == 5) = false by simpa using h4, show (t == 12) = false by simpa using h5, show (t == 15) = false by simpa using h6, show (t == 6) = false by simpa using h7, show (t == 16) = false by simpa using h8] at h
    cases h
/-- Where Check says no, Lower leaves data as they are. -/
theorem lower_no {t : Int} {l : Bs} (h : checkD t l ≠ 0) : lowerD t l = l := by
  unfold lowerD
  cases hp : ptsT t with
  | none => rfl
  | some ps =>
    simp only [Option.isSome_some, cond_true]
    cases hf : fitsD t l with
    | false =>
      unfold fitsD at hf
      rw [hp] at hf
      simp only [Option.isSome_some, cond_true] at hf
      rw [hf]; rfl
    | true =>
      obtain ⟨hr, ⟨h1, h2⟩ | h1⟩ := ptsT_case hp
      · exact absurd (check_fits hp h1 h2 hr hf) h
      · subst h1
        obtain ⟨o, q1, q2⟩ := fits_out hp hf
        have e1 : outP t l = o := by unfold outP; rw [q2]
        rw [q2, e1]
        obtain ⟨w1, w2⟩ := cuts_sum _ _ _ _ q1
        simp only [cuts] at q1
        cases hc : Pt.rest.cut l with
        | none => rw [hc] at q1; cases q1
        | some n =>
          rw [hc] at q1
          simp only [Option.map_some, Option.some.injEq, Prod.mk.injEq] at q1
          obtain ⟨rfl, _⟩ := q1
          have hb : (outR t l).isEmpty = true := by unfold outR; rw [q2]; rfl
          rw [hb]
          simpa [lowP, Pt.isName] using w2
theorem rlower_eq {t : Int} {l : Bs} (h1 : (cutsR (prT t) l).isSome = true) (h2 : (rpR t l).isEmpty = true) : ((formL t).zip (rpO t l)).flatMap lowI = lowerD t l ∧ (formL t).length = (rpO t l).length ∧ (rpO t l).flatten = l := by
  have hf := fits_yes h1 h2
  unfold lowerD
  cases hp : ptsT t with
  | none =>
    have e : rpO t l = [l] := by unfold rpO; rw [prT_none hp]; simp [cutsR, Pr.cut]
    have e2 : formL t = [-3] := by rw [(prT_form t).1, prT_none hp]; rfl
    rw [e, e2]
    exact ⟨by simp [lowI], rfl, by simp⟩
  | some ps =>
    obtain ⟨o, q1, q2⟩ := fits_out hp hf
    have e1 : outP t l = o := by unfold outP; rw [q2]
    have e2 : (outR t l).isEmpty = true := by unfold outR; rw [q2]; rfl
    obtain ⟨w1, w2⟩ := cuts_sum _ _ _ _ q1
    rw [rpO_of hp q2, (prT_form t).1, prT_some hp, zip_low ps l o [] q1]
    simp only [Option.isSome_some, cond_true, e1, e2, q2, Bool.and_self]
    refine ⟨trivial, by simp [w1], ?_⟩
    rw [List.append_nil] at w2
    rw [← List.flatMap_def]; exact w2

set_option maxRecDepth 100000 in
theorem rdrlower_fn (t : Int) (s : ByteArray) (hs : (bs s).length ≤ 100000000) : ∃ r, FnS Try.prog 0 40 [.int .i64 t, .string s] .e 0 r ∧ ∃ H m wr, r = .ret (str (lowerD t (bs s))) H m wr := by
  refine fn_sx mixed tbF5 [0, 1] Try.func40 (c := bodyOf Try.f40) (by kernel_rfl) ?_
  refine And.intro (size8 hs) ?_
  refine ifK (fun h1 => ?_) (fun h1 => ?_)
  · refine And.intro (size8 hs) ?_
    refine ifK (fun h2 => ?_) (fun h2 => ?_)
    · rw [lower_no (by simpa using h2)]
      exact ⟨_, _, _, by rw [← str_mk]; rfl⟩
    · refine ifK (fun h3 => ?_) (fun h3 => ?_)
      · rw [lower_no (check_not (fits_rest (by simpa using h3)))]
        exact ⟨_, _, _, by rw [← str_mk]; rfl⟩
      · obtain ⟨q1, q2, q3⟩ := rlower_eq h1 (by simpa using h3)
        have hz : ((formL t).zip (rpO t (bs s))).length = (formL t).length := by rw [List.length_zip]; omega
        have z1 : ((formL t).zip (rpO t (bs s))).map zi = (formL t).map intV := by
          rw [show zi = intV ∘ Prod.fst from rfl, ← List.map_map, List.map_fst_zip (by omega)]
        have z2 : ((formL t).zip (rpO t (bs s))).map zs = (rpO t (bs s)).map str := by
          rw [show zs = str ∘ Prod.snd from rfl, ← List.map_map, List.map_snd_zip (by omega)]
        have z3 : sumZ ((formL t).zip (rpO t (bs s))) = (bs s).length := by
          unfold sumZ
          rw [List.flatMap_def, List.map_snd_zip (by omega), q3]
        have hp := (prT_form t)
        have hfl : (formL t).length < 1000 := by rw [hp.1, List.length_map]; exact hp.2.2
        refine rlower_loop ((formL t).zip (rpO t (bs s))) (by omega) (by omega) (rc_slots [0, 1] rfl rfl rfl (fun l e => by cases e) (by decide) (by decide) rfl rfl (wr_of rfl) ⟨⟨_, rfl, ?_⟩, ⟨_, rfl, ?_⟩, ⟨_, rfl, .string _⟩, ⟨_, rfl, .int _ _⟩, trivial⟩ ⟨⟨by decide, _, rfl, ro_eq z1.symm (zi_plain _)⟩, ⟨by decide, _, rfl, ro_eq z2.symm (zs_plain _)⟩, trivial⟩ .nil) (fun f => ?_)
        · rw [hz]; exact .sl _ _ _ _ _ rfl
        · rw [hz, q2]; exact .sl _ _ _ _ _ rfl
        · rw [q1]; exact ⟨_, _, _, rfl⟩
  · rw [lower_no (check_not (fits_no h1))]
    refine And.intro (size8 hs) ?_
    refine ifK (fun h2 => ?_) (fun h2 => ?_)
    · exact ⟨_, _, _, by rw [← str_mk]; rfl⟩
    · exact ⟨_, _, _, by rw [← str_mk]; rfl⟩
def ct_rrdlower : Ct Try.prog 0 := Ct.intStr8 40 (fun t s => str (lowerD t (bs s))) (fun _ _ => rfl) (fun t s hs => by
  obtain ⟨r, h, H, m, wr, rfl⟩ := rdrlower_fn t s hs
  exact ⟨H, m, wr, h⟩)
end Go.Proofs.Ytmpaeabkdhjamaa
/- DERIVED. Data: Read, whole. -/
namespace Go.Proofs.Ytmpaeabkdhjamaa
open Go Go.RowKit
/-- What Read tells. -/
def rdV (y : Bs × Int × Int) : Value := .tuple #[str y.1, .agg #[.int .i64 y.2.1, .int .i64 y.2.2]]
def rdQ (B : Bl) (a z t : Int) (y : Bs × Int × Int) : Prop :=
  if t < 0 ∨ t > 65535 ∨ z < 0 ∨ z > 65535 then y = ([], 2, 0) else if a < 0 ∨ a > B.length then y = ([], 5, 0) else if (B.length : Int) - a < z then y = ([], 4, (B.length : Int)) else
  match ptsT t with | none => y = ((B.drop a.toNat).take z.toNat, 0, 0) | some ps => RdP B a (a + z) t ps a [] y
theorem rdQ_det {B : Bl} {a z t : Int} {y y' : Bs × Int × Int} (h : rdQ B a z t y) (k : rdQ B a z t y') : y = y' := by
  unfold rdQ at h k
  split at h
  · rename_i c; rw [if_pos c] at k; rw [h, k]
  · rename_i c; rw [if_neg c] at k
    split at h
    · rename_i c; rw [if_pos c] at k; rw [h, k]
    · rename_i c; rw [if_neg c] at k
      split at h
      · rename_i c; rw [if_pos c] at k; rw [h, k]
      · rename_i c; rw [if_neg c] at k
        cases hp : ptsT t with
        | none => rw [hp] at h k; rw [h, k]
        | some ps => rw [hp] at h k; exact h.det k
def rrR (B : Bl) (a z t : Int) (r : Res) : Prop := ∃ y H m wr, r = .ret (rdV y) H m wr ∧ (∀ k ∈ wr, 1 ≤ k) ∧ rdQ B a z t y
theorem rdQ_arg {B : Bl} {a z t : Int} (h : t < 0 ∨ t > 65535 ∨ z < 0 ∨ z > 65535) : rdQ B a z t ([], 2, 0) := by unfold rdQ; rw [if_pos h]
theorem rdQ_range {B : Bl} {a z t : Int} (h1 : ¬ (t < 0 ∨ t > 65535 ∨ z < 0 ∨ z > 65535)) (h : a < 0 ∨ a > B.length) : rdQ B a z t ([], 5, 0) := by unfold rdQ; rw [if_neg h1, if_pos h]
theorem rdQ_short {B : Bl} {a z t : Int} {n : Nat} (h1 : ¬ (t < 0 ∨ t > 65535 ∨ z < 0 ∨ z > 65535)) (h2 : ¬ (a < 0 ∨ a > B.length)) (hn : B.length = n) (h : (n : Int) - a < z) : rdQ B a z t ([], 4, (n : Int)) := by subst hn; unfold rdQ; rw [if_neg h1, if_neg h2, if_pos h]
theorem rdQ_some {B : Bl} {a z t : Int} {ps : List Pt} {y : Bs × Int × Int} (h1 : ¬ (t < 0 ∨ t > 65535 ∨ z < 0 ∨ z > 65535)) (h2 : ¬ (a < 0 ∨ a > B.length)) (h3 : ¬ (B.length : Int) - a < z) (hp : ptsT t = some ps) (h : RdP B a (a + z) t ps a [] y) : rdQ B a z t y := by
  unfold rdQ; rw [if_neg h1, if_neg h2, if_neg h3, hp]; exact h
theorem rdQ_none {B : Bl} {a z t : Int} (h1 : ¬ (t < 0 ∨ t > 65535 ∨ z < 0 ∨ z > 65535)) (h2 : ¬ (a < 0 ∨ a > B.length)) (h3 : ¬ (B.length : Int) - a < z) (hp : ptsT t = none) : rdQ B a z t ((B.drop a.toNat).take z.toNat, 0, 0) := by
  unfold rdQ; rw [if_neg h1, if_neg h2, if_neg h3, hp]
theorem check_none {t : Int} {s : Bs} (hp : ptsT t = none) (h : 0 ≤ t ∧ t ≤ 65535) (hs : s.length ≤ 65535) : checkD t s = 0 := by
  unfold checkD fitsD
  rw [hp, if_neg (by omega), if_neg (by omega)]; rfl
set_option maxRecDepth 1000000 in
set_option maxHeartbeats 4000000 in
theorem rdread_fn (l : Bl) (o n c : Nat) (a z t : Int) (h : o + n ≤ l.length) (hn : n ≤ 1000000) (hcap : c = U ∨ n ≤ c ∧ c ≤ 9223372036854775807) : ∃ r, FnS Try.prog 0 54 [.slice (some ⟨0, o, none⟩) n c, .int .i64 a, .int .i64 z, .int .i64 t] (heap 1 [(0, .win (l.map byV) 1)]) 1 r ∧ rrR ((l.drop o).take n) a z t r := by
  have h1s : (Try.prog.types[5]).size = 1 := by kernel_rfl
  cases hp : ptsT t with
  | some ps =>
    obtain ⟨p1, _, p3⟩ := ptsT_some hp
    have p2 : ps.length < 900 := by rcases (ptsT_case hp).2 with ⟨_, q⟩ | q
                                    · omega
                                    · rw [q]; decide
    refine fn_sx mixed (tbD7 t ps p3) [0] Try.func54 (c := bodyOf Try.f54) (by kernel_rfl) ?_
    refine ifK (fun g => ?_) (fun h1 => ?_)
    · exact ⟨([], 2, 0), _, _, _, rfl, wr_ge rfl, rdQ_arg (.inl (of_decide_eq_true g))⟩
    refine ifK (fun g => ?_) (fun h2 => ?_)
    · exact ⟨([], 2, 0), _, _, _, rfl, wr_ge rfl, rdQ_arg (.inr (.inl (of_decide_eq_true g)))⟩
    refine ifK (fun g => ?_) (fun h3 => ?_)
    · exact ⟨([], 2, 0), _, _, _, rfl, wr_ge rfl, rdQ_arg (.inr (.inr (.inl (of_decide_eq_true g))))⟩
    refine ifK (fun g => ?_) (fun h4 => ?_)
    · exact ⟨([], 2, 0), _, _, _, rfl, wr_ge rfl, rdQ_arg (.inr (.inr (.inr (of_decide_eq_true g))))⟩
    have hN1 : ¬ (t < 0 ∨ t > 65535 ∨ z < 0 ∨ z > 65535) := by have q1 := of_decide_eq_false h1; have q2 := of_decide_eq_false h2; have q3 := of_decide_eq_false h3; have q4 := of_decide_eq_false h4; omega
    refine ifK (fun g => ?_) (fun h5 => ?_)
    · exact ⟨([], 5, 0), _, _, _, rfl, wr_ge rfl, rdQ_range hN1 (.inl (of_decide_eq_true g))⟩
    refine ifK (fun g => ?_) (fun h6 => ?_)
    · exact ⟨([], 5, 0), _, _, _, rfl, wr_ge rfl, rdQ_range hN1 (.inr (by rw [lenB h]; exact of_decide_eq_true g))⟩
    have h3 : ¬ z < 0 := of_decide_eq_false h3
    have h5 : ¬ a < 0 := of_decide_eq_false h5
    have h6 : ¬ a > (n : Int) := of_decide_eq_false h6
    have e1 : IntKind.i64.wrap ((n : Int) - a) = n - a := wrapN (by omega) (by omega)
    have hN2 : ¬ (a < 0 ∨ a > (((l.drop o).take n).length : Int)) := by rw [lenB h]; omega
    refine ifK (fun g => ?_) (fun h7 => ?_)
    · exact ⟨([], 4, (n : Int)), _, _, _, rfl, wr_ge rfl, rdQ_short hN1 hN2 (lenB h) (by have g := of_decide_eq_true g; rw [e1] at g; exact g)⟩
    have h7 : ¬ (n : Int) - a < z := by have h7 := of_decide_eq_false h7; rw [e1] at h7; exact h7
    have hN3 : ¬ (((l.drop o).take n).length : Int) - a < z := by rw [lenB h]; exact h7
    have e2 : IntKind.i64.wrap (a + z) = a + z := wrapN (by omega) (by omega)
    refine And.intro (by simp) ?_
    refine rr_loop l o n c t a (IntKind.i64.wrap (a + z)) ps p3 p2 h hn hcap ⟨by omega, by omega, by omega⟩ (rc_slots [1, 2, 3] rfl rfl rfl (fun l e => by cases e) (by decide) (by decide) rfl rfl (wr_of rfl) ⟨⟨_, rfl, .sl _ _ _ _ _ rfl⟩, ⟨_, rfl, .int _ _⟩, ⟨_, rfl, .ptr _ _ _ rfl⟩, ⟨_, rfl, .int _ _⟩, ⟨_, rfl, .ptr _ _ _ rfl⟩, ⟨_, rfl, .string _⟩, ⟨_, rfl, .int _ _⟩, ⟨_, rfl, .sl _ _ _ _ _ rfl⟩, ⟨_, rfl, .int _ _⟩, ⟨_, rfl, .int _ _⟩, trivial⟩ ⟨⟨by decide, _, rfl, .sameW (byV_plain l)⟩, ⟨by decide, _, rfl, .same rfl⟩, ⟨by decide, _, rfl, (by first | exact .same (flat_plain _ Pt.cell_plain ps) | exact .sameW (flat_plain _ Pt.cell_plain ps))⟩, ⟨by decide, _, rfl, .same rfl⟩, trivial⟩ .nil) (fun er pos f w1 w2 w3 w4 => ?_) (fun i out f hl hO => ?_)
    · exact ⟨_, _, _, _, rfl, wr_ge rfl, rdQ_some hN1 hN2 hN3 hp (by rw [e2] at w4; exact w4)⟩
    · refine ifK (fun g => ?_) (fun h8 => ?_)
      · refine And.intro ?_ ?_
        · kernel_rfl
        exact ⟨([], 4, a), _, _, _, rfl, wr_ge rfl, rdQ_some hN1 hN2 hN3 hp (by have := hO _ (.off (fun q => by rw [q.1] at g; simp at g)); rw [e2] at this; exact this)⟩
      refine And.intro (shortB_of hl) ?_
      refine ifK (fun h9 => ?_) (fun h9 => ?_)
      · refine And.intro ?_ ?_
        · kernel_rfl
        exact ⟨([], 4, a), _, _, _, rfl, wr_ge rfl, rdQ_some hN1 hN2 hN3 hp (by have := hO _ (.off (fun q => by rw [q.2] at h9; simp at h9)); rw [e2] at this; exact this)⟩
      · have h9 : checkD t (bs out) = 0 := by simpa using h9
        have h8 : i = IntKind.i64.wrap (a + z) := by simpa using h8
        exact ⟨(bs out, 0, 0), _, _, _, (by show _ = Res.ret (.tuple #[str (bs out), .agg #[.int .i64 0, .int .i64 0]]) _ _ _; rw [← str_mk out]; first | done | rfl), wr_ge rfl, rdQ_some hN1 hN2 hN3 hp (by have := hO _ (.fin h8 h9); rw [e2] at this; exact this)⟩
  | none =>
    refine fn_sx mixed (tbD7n t (ptsT_none hp)) [0] Try.func54 (c := bodyOf Try.f54) (by kernel_rfl) ?_
    refine ifK (fun g => ?_) (fun h1 => ?_)
    · exact ⟨([], 2, 0), _, _, _, rfl, wr_ge rfl, rdQ_arg (.inl (of_decide_eq_true g))⟩
    refine ifK (fun g => ?_) (fun h2 => ?_)
    · exact ⟨([], 2, 0), _, _, _, rfl, wr_ge rfl, rdQ_arg (.inr (.inl (of_decide_eq_true g)))⟩
    refine ifK (fun g => ?_) (fun h3 => ?_)
    · exact ⟨([], 2, 0), _, _, _, rfl, wr_ge rfl, rdQ_arg (.inr (.inr (.inl (of_decide_eq_true g))))⟩
    refine ifK (fun g => ?_) (fun h4 => ?_)
    · exact ⟨([], 2, 0), _, _, _, rfl, wr_ge rfl, rdQ_arg (.inr (.inr (.inr (of_decide_eq_true g))))⟩
    have hN1 : ¬ (t < 0 ∨ t > 65535 ∨ z < 0 ∨ z > 65535) := by have q1 := of_decide_eq_false h1; have q2 := of_decide_eq_false h2; have q3 := of_decide_eq_false h3; have q4 := of_decide_eq_false h4; omega
    refine ifK (fun g => ?_) (fun h5 => ?_)
    · exact ⟨([], 5, 0), _, _, _, rfl, wr_ge rfl, rdQ_range hN1 (.inl (of_decide_eq_true g))⟩
    refine ifK (fun g => ?_) (fun h6 => ?_)
    · exact ⟨([], 5, 0), _, _, _, rfl, wr_ge rfl, rdQ_range hN1 (.inr (by rw [lenB h]; exact of_decide_eq_true g))⟩
    have h1 : ¬ t < 0 := of_decide_eq_false h1
    have h2 : ¬ t > 65535 := of_decide_eq_false h2
    have h3 : ¬ z < 0 := of_decide_eq_false h3
    have h4 : ¬ z > 65535 := of_decide_eq_false h4
    have h5 : ¬ a < 0 := of_decide_eq_false h5
    have h6 : ¬ a > (n : Int) := of_decide_eq_false h6
    have e1 : IntKind.i64.wrap ((n : Int) - a) = n - a := wrapN (by omega) (by omega)
    have hN2 : ¬ (a < 0 ∨ a > (((l.drop o).take n).length : Int)) := by rw [lenB h]; omega
    refine ifK (fun g => ?_) (fun h7 => ?_)
    · exact ⟨([], 4, (n : Int)), _, _, _, rfl, wr_ge rfl, rdQ_short hN1 hN2 (lenB h) (by have g := of_decide_eq_true g; rw [e1] at g; exact g)⟩
    have h7 : ¬ (n : Int) - a < z := by have h7 := of_decide_eq_false h7; rw [e1] at h7; exact h7
    have hN3 : ¬ (((l.drop o).take n).length : Int) - a < z := by rw [lenB h]; exact h7
    have e2 : IntKind.i64.wrap (a + z) = a + z := wrapN (by omega) (by omega)
    have eS : bs ⟨((l.drop (o + a.toNat)).take ((IntKind.i64.wrap (a + z)).toNat - a.toNat)).toArray⟩ = (l.drop (o + a.toNat)).take ((IntKind.i64.wrap (a + z)).toNat - a.toNat) := bs_mk _
    have eL : ((l.drop (o + a.toNat)).take ((IntKind.i64.wrap (a + z)).toNat - a.toNat)).length ≤ 65535 := by rw [List.length_take, e2]; omega
    have fin : rdQ ((l.drop o).take n) a z t ((l.drop (o + a.toNat)).take ((IntKind.i64.wrap (a + z)).toNat - a.toNat), 0, 0) := by
      have := rdQ_none hN1 hN2 hN3 hp
      rw [List.drop_take, List.take_take, List.drop_drop, Nat.min_eq_left (by omega)] at this
      rw [e2, show (a + z).toNat - a.toNat = z.toNat by omega]; exact this
    have srcs : ∀ (o' c' : Nat) (G : Gh), (o' = o + a.toNat ∨ (IntKind.i64.wrap (a + z)).toNat - a.toNat = 0) → G 0 = some (.win (l.map byV) 1) → srcCells G 1 (.slice (some ⟨0, o', none⟩) ((IntKind.i64.wrap (a + z)).toNat - a.toNat) c') = some ((IntKind.i64.wrap (a + z)).toNat - a.toNat, (((l.drop (o + a.toNat)).take ((IntKind.i64.wrap (a + z)).toNat - a.toNat)).map fun b : UInt8 => Value.int .u8 (b.toNat : Int))) := fun o' c' G ho hG => by
      rw [e2]
      rw [e2] at ho
      unfold srcCells
      by_cases hz : (a + z).toNat - a.toNat = 0
      · rw [hz]; simp
      · have ho := ho.resolve_right hz
        subst ho
        have : ((a + z).toNat - a.toNat).beq 0 = false := by cases hb : ((a + z).toNat - a.toNat).beq 0; rfl; exact absurd (Nat.eq_of_beq_eq_true hb) hz
        simp only [this, cond_false, hG, Option.bind_some, AObj.look]
        rw [Nat.ble_eq_true_of_le (by simp; omega)]
        simp only [cond_true, Nat.mul_one, List.map_take, List.map_drop]; rfl
    refine And.intro (by simp) ?_
    refine ifK (fun hcu => ?_) (fun hcu => ?_)
    · refine And.intro (by rw [e2]; simp only [inLH, Bool.and_eq_true, decide_eq_true_eq]; omega) ?_
      refine Exists.intro ((l.drop (o + a.toNat)).take ((IntKind.i64.wrap (a + z)).toNat - a.toNat)) (And.intro (by rw [h1s]; exact srcs _ _ _ (.inl (by rw [Nat.mul_one])) rfl) ?_)
      exact ⟨((l.drop (o + a.toNat)).take ((IntKind.i64.wrap (a + z)).toNat - a.toNat), 0, 0), _, _, _, rfl, wr_ge rfl, fin⟩
    · have hcU : c ≠ U := fun e0 => (by subst e0; cases hcu)
      obtain ⟨hc1, hc2⟩ := hcap.resolve_left hcU
      refine And.intro (by rw [e2]; simp only [inLH, Bool.and_eq_true, decide_eq_true_eq]; exact ⟨⟨⟨⟨by omega, by omega⟩, by omega⟩, Nat.ble_eq_true_of_le hc1⟩, Nat.ble_eq_true_of_le (by omega)⟩) ?_
      refine Exists.intro ((l.drop (o + a.toNat)).take ((IntKind.i64.wrap (a + z)).toNat - a.toNat)) (And.intro (by rw [h1s]; exact srcs _ _ _ (by rw [Nat.mul_one]; cases hb : c.beq a.toNat with | true => (have hb2 := Nat.eq_of_beq_eq_true hb; rw [e2]; exact .inr (by omega)) | false => exact .inl rfl) rfl) ?_)
      exact ⟨((l.drop (o + a.toNat)).take ((IntKind.i64.wrap (a + z)).toNat - a.toNat), 0, 0), _, _, _, rfl, wr_ge rfl, fin⟩
end Go.Proofs.Ytmpaeabkdhjamaa
/- DERIVED. Data: Read, as a contract. -/
namespace Go.Proofs.Ytmpaeabkdhjamaa
open Go Go.RowKit
noncomputable def cq_rdread : CtQ Try.prog :=
  { f := 54, X := RdB × Int × Int × Int, pre := fun x a H _ => a = [x.1.sl, .int .i64 x.2.1, .int .i64 x.2.2.1, .int .i64 x.2.2.2] ∧ x.1.at H ∧ x.1.n ≤ 1000000 ∧ (x.1.c = U ∨ x.1.n ≤ x.1.c ∧ x.1.c ≤ 9223372036854775807), Q := fun x v => ∃ y, v = rdV y ∧ rdQ x.1.B x.2.1 x.2.2.1 x.2.2.2 y,
    ok := fun ⟨⟨b, o, n, c, l⟩, i, z, t⟩ a H m ⟨h1, h2, h3, h4⟩ => by
      subst h1
      obtain ⟨r, hF, y, H', m', wr, rfl, hw, hq⟩ := rdread_fn l o n c i z t h2.2 h3 h4
      exact ⟨rdV y, callOK_reads [b] hF hw dup_one (.cons _ _ _ _ (.sl _ _ _ _ _ rfl) (plain_rl rfl)) (rd_blocks h2.1 (byV_plain l)) rfl, y, rfl, hq⟩,
    uniq := fun ⟨x, i, z, t⟩ ⟨y, i', z', t'⟩ a H m ⟨h1, h2, _⟩ ⟨k1, k2, _⟩ => by
      rw [h1] at k1
      simp only [List.cons.injEq, Value.int.injEq, true_and, and_true] at k1
      obtain ⟨e1, rfl, rfl, rfl⟩ := k1
      rw [RdB.uniq e1 h2 k2] }
noncomputable def ct_rdread : Ct Try.prog 0 := cq_rdread.ct
/-- rdata.Read, its result by parts. -/
noncomputable def ct_rdreadY : Ct Try.prog 0 := cq_rdread.ctY (Bs × Int × Int) rdV (fun (x : RdB × Int × Int × Int) y => rdQ x.1.B x.2.1 x.2.2.1 x.2.2.2 y) (fun _ _ h => h)
/-- wire.Read, its result by parts. -/
noncomputable def ct_wreadY : Ct Try.prog 0 := cq_wread.ctY RR rrV (fun (x : RdB × Int) r => rdOk x.1.B x.2 r) (fun _ _ h => h)
theorem rdOk.pos {B : Bl} {x : Int} {r : RR} (h : rdOk B x r) (he : r.e = 0) : x < r.next := by
  rcases h with ⟨_, rfl⟩ | ⟨a, rfl, h1, h2⟩
  · cases he
  · have key : ∀ {p i : Nat} {out : Bl} {bh : Int} {r : RR}, Rd B a p i out bh r → (bh < 0 → a ≤ i) → (0 ≤ bh → (a : Int) < bh) → r.e = 0 → (a : Int) < r.next := by
      intro p i out bh r h
      induction h with
      | zero h hc =>
        intro q1 q2 _
        dsimp only
        split
        · have := q1 (by assumption); omega
        · exact q2 (by omega)
      | ptr h hc h2 h3 hr ih =>
        intro q1 q2 he
        refine ih (fun q => ?_) (fun _ => ?_) he
        · split at q
          · omega
          · omega
        · split
          · have := q1 (by assumption); omega
          · exact q2 (by omega)
      | lab h hc hc2 h2 h3 hr ih => intro q1 q2 he; exact ih (fun q => by have := q1 q; omega) q2 he
      | _ => intro _ _ e; cases e
    exact key h2 (fun _ => Nat.le_refl _) (fun q => by omega) he
/-- What holds of data that are read. -/
theorem RdP.fine {B : Bl} {a e t : Int} {ps : List Pt} {i : Int} {out : Bs} {y : Bs × Int × Int} (h : RdP B a e t ps i out y) (ha : 0 ≤ a ∧ a ≤ B.length) : (y.2.1 ≠ 0 → y.1 = [] ∧ 0 ≤ y.2.2 ∧ y.2.2 ≤ B.length) ∧ (y.2.1 = 0 → y.2.2 = 0 ∧ checkD t y.1 = 0) := by
  induction h with
  | fin h1 h2 => exact ⟨fun e => absurd rfl e, fun _ => ⟨rfl, h2⟩⟩
  | off h => exact ⟨fun _ => ⟨rfl, ha⟩, fun e => by cases e⟩
  | nmb h he => exact ⟨fun _ => ⟨rfl, h.fine.1 he⟩, fun e => absurd e he⟩
  | nmo h he h2 => exact ⟨fun _ => ⟨rfl, ha⟩, fun e => by cases e⟩
  | nmc _ _ _ _ ih => exact ih
  | rest _ ih => exact ih
  | szb h => exact ⟨fun _ => ⟨rfl, ha⟩, fun e => by cases e⟩
  | szc _ _ ih => exact ih
theorem rdQ.fine {B : Bl} {a z t : Int} {y : Bs × Int × Int} (h : rdQ B a z t y) : (y.2.1 ≠ 0 → y.1 = [] ∧ 0 ≤ y.2.2 ∧ y.2.2 ≤ B.length) ∧ (y.2.1 = 0 → y.2.2 = 0 ∧ checkD t y.1 = 0 ∧ 0 ≤ z ∧ a + z ≤ B.length) := by
  unfold rdQ at h
  split at h
  · subst h; exact ⟨fun _ => ⟨rfl, Int.le_refl _, Int.natCast_nonneg _⟩, fun e => by cases e⟩
  · split at h
    · subst h; exact ⟨fun _ => ⟨rfl, Int.le_refl _, Int.natCast_nonneg _⟩, fun e => by cases e⟩
    · split at h
      · subst h; exact ⟨fun _ => ⟨rfl, Int.natCast_nonneg _, Int.le_refl _⟩, fun e => by cases e⟩
      · cases hp : ptsT t with
        | none =>
          rw [hp] at h
          subst h
          exact ⟨fun e => absurd rfl e, fun _ => ⟨rfl, check_none hp (by omega) (by rw [List.length_take]; omega), by omega, by omega⟩⟩
        | some ps =>
          rw [hp] at h
          obtain ⟨q1, q2⟩ := RdP.fine h (by omega)
          exact ⟨q1, fun e => ⟨(q2 e).1, (q2 e).2, by omega, by omega⟩⟩
end Go.Proofs.Ytmpaeabkdhjamaa
/- DERIVED. Names in messages: the document's Read. -/
namespace Go.Proofs.Ytmpaeabkdhjamaa
open Go Go.RowKit
noncomputable def tbW6 : Tb Try.prog 0 := tbOf mixed []
def wr6 (o n c : Nat) (l : Bl) (a : Nat) (x : Nat × Nat × Bl × Int) (f : Nat → Option Value) : Fs :=
  match x with
  | (p, i, out, bh) => ⟨slots 7 [(0, .slice (some ⟨0, o, none⟩) n c), (1, .int .i64 a), (6, .pointer (some ⟨1, 0, none⟩)), (7, .pointer (some ⟨2, 0, none⟩)), (8, .string ⟨out.toArray⟩), (9, .int .i64 bh), (10, .int .i64 p), (11, .int .i64 i)] f,
      heap 2 [(0, .win (l.map byV) 1), (1, .cells [.int .i64 0, .int .i64 0] 55), (2, .cells [.int .i64 4, .int .i64 n] 55)], 3, [], []⟩
set_option maxRecDepth 1000000 in
set_option maxHeartbeats 4000000 in
theorem rread_loop (l : Bl) (o n c a : Nat) (h : o + n ≤ l.length) (hn : n ≤ 1000000000) (hcap : c = U ∨ n ≤ c ∧ c ≤ 9223372036854775807) (ha : a ≤ n) {s0 : Fs} {K : Ex → Fs → Prop}
    (h0 : ∃ f, RcM Try.prog 0 1 (2 + (Try.f58.ntmps - 2)) none s0 (wr6 o n c l a (a, a, [], -1) f))
    (hret : ∀ s nx e pos f, Rd ((l.drop o).take n) a a a [] (-1) ⟨s, nx, e, pos⟩ → K .ret ⟨slots 7 [(4, .string ⟨s.toArray⟩), (5, .int .i64 nx), (6, .pointer (some ⟨1, 0, none⟩))] f, heap 2 [(1, .cells [.int .i64 e, .int .i64 pos] 55)], 2, [], []⟩) :
    LW Try.prog 0 1 (2 + (Try.f58.ntmps - 2)) none (loopAt Try.f58 0) s0 K := by
  obtain ⟨B, hB⟩ : ∃ B, B = (l.drop o).take n := ⟨_, rfl⟩
  have hlB : B.length = n := by rw [hB]; exact lenB h
  have hcell : ∀ i, i < n → (l.map byV)[o + i * 1]? = some (.int .u8 (cB B i : Int)) := fun i hi => by rw [hB]; exact cellB h hi
  have htake : ∀ i k, i + k ≤ n → (l.drop (o + i)).take k = (B.drop i).take k := fun i k hik => by rw [hB]; exact takeB hik
  rw [← hB] at hret
  refine loop_goX (wr6 o n c l a) (muR n) (fun x => x.1 ≤ n ∧ x.2.1 ≤ n ∧ x.2.2.1.length ≤ 254 ∧ (-1 ≤ x.2.2.2 ∧ x.2.2.2 ≤ n) ∧ ∀ r, Rd B a x.1 x.2.1 x.2.2.1 x.2.2.2 r → Rd B a a a [] (-1) r) (a, a, [], -1) ⟨ha, ha, by simp, ⟨by simp, by show (-1 : Int) ≤ n; omega⟩, fun r hr => hr⟩ h0 ?_
  rintro ⟨p, i, out, bh⟩ f ⟨hp, hi, hout, ⟨hb1, hb2⟩, hinv⟩
  have hp : p ≤ n := hp
  have hi : i ≤ n := hi
  have hout : out.length ≤ 254 := hout
  have hb1 : -1 ≤ bh := hb1
  have hb2 : bh ≤ n := hb2
  have hinv : ∀ r, Rd B a p i out bh r → Rd B a a a [] (-1) r := hinv
  have hb := cB_lt B i
  have h1s : (Try.prog.types[5]).size = 1 := by kernel_rfl
  refine sx_ok tbW6 [0] 1 _ none mixed _ _ _ ?_
  refine ifK (fun h1 => ?_) (fun h1 => ?_)
  · have h1 : n ≤ i := by have := of_decide_eq_true h1; omega
    refine And.intro ?_ ?_
    · kernel_rfl
    have fin := hinv _ (.over (by omega))
    rw [hlB] at fin
    exact And.intro rfl (rc_end (rc_slots [1] rfl rfl rfl (fun l e => by cases e) (by decide) (by decide) rfl rfl (wr_of rfl) (d := 7) (d2 := 2) (lv := [(4, .string ⟨([]).toArray⟩), (5, .int .i64 (0)), (6, .pointer (some ⟨1, 0, none⟩))]) (bs := [(1, .cells [.int .i64 (4), .int .i64 ((n : Int))] 55)]) (W := []) (m := 2) (df := []) ⟨⟨_, rfl, .string _⟩, ⟨_, rfl, .int _ _⟩, ⟨_, rfl, .ptr _ _ _ rfl⟩, trivial⟩ ⟨⟨by decide, _, rfl, .same rfl⟩, trivial⟩ .nil) (fun f => hret _ _ _ _ f fin))
  have h1 : i < n := by have := of_decide_eq_false h1; omega
  refine ifK (fun _ => ?_) (fun h2 => absurd h2 (by simp [inI]; omega))
  refine Exists.intro (cB B i : Int) (And.intro (by rw [h1s, Int.toNat_natCast]; exact hcell i h1) ?_)
  have ec : IntKind.i64.wrap (cB B i : Int) = (cB B i : Int) := wrapM (by omega) (by omega)
  refine ifK (fun h2 => ?_) (fun h2 => ?_)
  · have h2 : cB B i = 0 := by rw [ec] at h2; have h9 : (cB B i : Int) = 0 := (by simpa using h2); omega
    refine ifK (fun h3 => ?_) (fun h3 => ?_)
    · have h3 : bh < 0 := of_decide_eq_true h3
      refine And.intro (catOk_of (by show out.length + 1 ≤ _; omega)) ?_
      have fin := hinv _ (.zero (by omega) h2)
      rw [if_pos h3, show (i : Int) + 1 = IntKind.i64.wrap ((i : Int) + 1) by rw [wrapM (by omega) (by omega)]] at fin
      exact And.intro rfl (rc_end (rc_slots [1] rfl rfl rfl (fun l e => by cases e) (by decide) (by decide) rfl rfl (wr_of rfl) (d := 7) (d2 := 2) (lv := [(4, .string ⟨(out ++ [0]).toArray⟩), (5, .int .i64 (IntKind.i64.wrap ((i : Int) + 1))), (6, .pointer (some ⟨1, 0, none⟩))]) (bs := [(1, .cells [.int .i64 (0), .int .i64 (0)] 55)]) (W := []) (m := 2) (df := []) ⟨⟨_, rfl, .string _⟩, ⟨_, rfl, .int _ _⟩, ⟨_, rfl, .ptr _ _ _ rfl⟩, trivial⟩ ⟨⟨by decide, _, rfl, .same rfl⟩, trivial⟩ .nil) (fun f => hret _ _ _ _ f fin))
    · have h3 : ¬ bh < 0 := of_decide_eq_false h3
      refine And.intro (catOk_of (by show out.length + 1 ≤ _; omega)) ?_
      have fin := hinv _ (.zero (by omega) h2)
      rw [if_neg h3] at fin
      exact And.intro rfl (rc_end (rc_slots [1] rfl rfl rfl (fun l e => by cases e) (by decide) (by decide) rfl rfl (wr_of rfl) (d := 7) (d2 := 2) (lv := [(4, .string ⟨(out ++ [0]).toArray⟩), (5, .int .i64 (bh)), (6, .pointer (some ⟨1, 0, none⟩))]) (bs := [(1, .cells [.int .i64 (0), .int .i64 (0)] 55)]) (W := []) (m := 2) (df := []) ⟨⟨_, rfl, .string _⟩, ⟨_, rfl, .int _ _⟩, ⟨_, rfl, .ptr _ _ _ rfl⟩, trivial⟩ ⟨⟨by decide, _, rfl, .same rfl⟩, trivial⟩ .nil) (fun f => hret _ _ _ _ f fin))
  have h2 : 0 < cB B i := by rw [ec] at h2; have h9 : (cB B i : Int) ≠ 0 := (by simpa using h2); omega
  have e1 : IntKind.i64.wrap ((i : Int) + 1) = (i : Int) + 1 := wrapM (by omega) (by omega)
  refine ifK (fun h3 => ?_) (fun h3 => ?_)
  · have h3 : cB B i ≤ 63 := by rw [ec] at h3; have := of_decide_eq_true h3; omega
    have e2 : IntKind.i64.wrap (IntKind.i64.wrap ((i : Int) + 1) + IntKind.i64.wrap (cB B i : Int)) = ((i + (cB B i + 1) : Nat) : Int) := by rw [ec, e1, wrapM (by omega) (by omega)]; omega
    refine ifK (fun h4 => ?_) (fun h4 => ?_)
    · have h4 : n < i + (cB B i + 1) := by have := of_decide_eq_true h4; rw [e2] at this; omega
      refine And.intro ?_ ?_
      · kernel_rfl
      have fin := hinv _ (.short (by omega) h2 h3 (by omega))
      rw [hlB] at fin
      exact And.intro rfl (rc_end (rc_slots [1] rfl rfl rfl (fun l e => by cases e) (by decide) (by decide) rfl rfl (wr_of rfl) (d := 7) (d2 := 2) (lv := [(4, .string ⟨([]).toArray⟩), (5, .int .i64 (0)), (6, .pointer (some ⟨1, 0, none⟩))]) (bs := [(1, .cells [.int .i64 (4), .int .i64 ((n : Int))] 55)]) (W := []) (m := 2) (df := []) ⟨⟨_, rfl, .string _⟩, ⟨_, rfl, .int _ _⟩, ⟨_, rfl, .ptr _ _ _ rfl⟩, trivial⟩ ⟨⟨by decide, _, rfl, .same rfl⟩, trivial⟩ .nil) (fun f => hret _ _ _ _ f fin))
    have h4 : i + (cB B i + 1) ≤ n := by have := of_decide_eq_false h4; rw [e2] at this; omega
    have e3 : (IntKind.i64.wrap (IntKind.i64.wrap ((i : Int) + 1) + IntKind.i64.wrap (cB B i : Int))).toNat - (i : Int).toNat = cB B i + 1 := by rw [e2]; omega
    have htl : ((B.drop i).take (cB B i + 1)).length = cB B i + 1 := by rw [List.length_take, List.length_drop]; omega
    have srcs : ∀ (o' c' : Nat) (G : Gh), o' = o + i → G 0 = some (.win (l.map byV) 1) → srcCells G 1 (.slice (some ⟨0, o', none⟩) ((IntKind.i64.wrap (IntKind.i64.wrap ((i : Int) + 1) + IntKind.i64.wrap (cB B i : Int))).toNat - (i : Int).toNat) c') = some ((IntKind.i64.wrap (IntKind.i64.wrap ((i : Int) + 1) + IntKind.i64.wrap (cB B i : Int))).toNat - (i : Int).toNat, ((B.drop i).take (cB B i + 1)).map fun b : UInt8 => Value.int .u8 (b.toNat : Int)) := fun o' c' G ho hG => by
      rw [e3]
      subst ho
      unfold srcCells
      simp only [show (cB B i + 1).beq 0 = false from rfl, cond_false, hG, Option.bind_some, AObj.look]
      rw [Nat.ble_eq_true_of_le (by simp; omega)]
      rw [← htake i _ h4]
      simp only [cond_true, Nat.mul_one, List.map_take, List.map_drop]; rfl
    refine ifK (fun hcu => ?_) (fun hcu => ?_)
    · refine And.intro (by rw [e2]; simp only [inLH, Bool.and_eq_true, decide_eq_true_eq]; omega) ?_
      refine Exists.intro ((B.drop i).take (cB B i + 1)) (And.intro (by rw [h1s]; exact srcs (o + (i : Int).toNat * (Try.prog.types[5]).size) _ _ (by rw [h1s]; simp) rfl) ?_)
      refine And.intro (catOk_of (by show out.length + ((B.drop i).take (cB B i + 1)).length ≤ _; omega)) ?_
      have eL : (catS ⟨out.toArray⟩ ⟨((B.drop i).take (cB B i + 1)).toArray⟩).data.size = out.length + (cB B i + 1) := by show (out ++ (B.drop i).take (cB B i + 1)).length = _; rw [List.length_append, htl]
      refine ifK (fun h5 => ?_) (fun h5 => ?_)
      · have h5 : 254 < out.length + (cB B i + 1) := by have := of_decide_eq_true h5; rw [eL] at this; omega
        have fin := hinv _ (.long (by omega) h2 h3 (by omega) h5)
        exact And.intro rfl (rc_end (rc_slots [1] rfl rfl rfl (fun l e => by cases e) (by decide) (by decide) rfl rfl (wr_of rfl) (d := 7) (d2 := 2) (lv := [(4, .string ⟨([]).toArray⟩), (5, .int .i64 (0)), (6, .pointer (some ⟨1, 0, none⟩))]) (bs := [(1, .cells [.int .i64 (3), .int .i64 ((a : Int))] 55)]) (W := []) (m := 2) (df := []) ⟨⟨_, rfl, .string _⟩, ⟨_, rfl, .int _ _⟩, ⟨_, rfl, .ptr _ _ _ rfl⟩, trivial⟩ ⟨⟨by decide, _, rfl, .same rfl⟩, trivial⟩ .nil) (fun f => hret _ _ _ _ f fin))
      · have h5 : out.length + (cB B i + 1) ≤ 254 := by have := of_decide_eq_false h5; rw [eL] at this; omega
        refine ⟨(p, i + (cB B i + 1), out ++ (B.drop i).take (cB B i + 1), bh), ⟨hp, h4, by show (out ++ (B.drop i).take (cB B i + 1)).length ≤ 254; rw [List.length_append, htl]; exact h5, ⟨hb1, hb2⟩, fun r hr => hinv r (.lab (by omega) h2 h3 (by omega) h5 hr)⟩, ?_, ?_⟩
        · show p * (n + 2) + (n + 1 - (i + (cB B i + 1))) < p * (n + 2) + (n + 1 - i); omega
        · exact rc_slots [1, 2] rfl rfl rfl (fun l e => by cases e) (by decide) (by decide) rfl rfl (wr_of rfl) ⟨⟨_, rfl, .sl _ _ _ _ _ rfl⟩, ⟨_, rfl, .int _ _⟩, ⟨_, rfl, .ptr _ _ _ rfl⟩, ⟨_, rfl, .ptr _ _ _ rfl⟩, ⟨_, rfl, .string _⟩, ⟨_, rfl, .int _ _⟩, ⟨_, rfl, .int _ _⟩, ⟨_, rfl, by rw [← e2]; exact .int _ _⟩, trivial⟩ ⟨⟨by decide, _, rfl, .sameW (byV_plain l)⟩, ⟨by decide, _, rfl, .same rfl⟩, ⟨by decide, _, rfl, .same rfl⟩, trivial⟩ .nil
    · have hcU : c ≠ U := fun e0 => (by subst e0; cases hcu)
      obtain ⟨hc1, hc2⟩ := hcap.resolve_left hcU
      refine And.intro (by rw [e2]; simp only [inLH, Bool.and_eq_true, decide_eq_true_eq]; exact ⟨⟨⟨⟨by omega, by omega⟩, by omega⟩, Nat.ble_eq_true_of_le hc1⟩, Nat.ble_eq_true_of_le (by omega)⟩) ?_
      refine Exists.intro ((B.drop i).take (cB B i + 1)) (And.intro (by rw [h1s]; exact srcs (bif c.beq (i : Int).toNat then o else o + (i : Int).toNat * (Try.prog.types[5]).size) _ _ (by cases hb : c.beq (i : Int).toNat with | true => (have hb2 := Nat.eq_of_beq_eq_true hb; exact absurd hb2 (by simp; omega)) | false => (rw [cond_false, h1s]; simp)) rfl) ?_)
      refine And.intro (catOk_of (by show out.length + ((B.drop i).take (cB B i + 1)).length ≤ _; omega)) ?_
      have eL : (catS ⟨out.toArray⟩ ⟨((B.drop i).take (cB B i + 1)).toArray⟩).data.size = out.length + (cB B i + 1) := by show (out ++ (B.drop i).take (cB B i + 1)).length = _; rw [List.length_append, htl]
      refine ifK (fun h5 => ?_) (fun h5 => ?_)
      · have h5 : 254 < out.length + (cB B i + 1) := by have := of_decide_eq_true h5; rw [eL] at this; omega
        have fin := hinv _ (.long (by omega) h2 h3 (by omega) h5)
        exact And.intro rfl (rc_end (rc_slots [1] rfl rfl rfl (fun l e => by cases e) (by decide) (by decide) rfl rfl (wr_of rfl) (d := 7) (d2 := 2) (lv := [(4, .string ⟨([]).toArray⟩), (5, .int .i64 (0)), (6, .pointer (some ⟨1, 0, none⟩))]) (bs := [(1, .cells [.int .i64 (3), .int .i64 ((a : Int))] 55)]) (W := []) (m := 2) (df := []) ⟨⟨_, rfl, .string _⟩, ⟨_, rfl, .int _ _⟩, ⟨_, rfl, .ptr _ _ _ rfl⟩, trivial⟩ ⟨⟨by decide, _, rfl, .same rfl⟩, trivial⟩ .nil) (fun f => hret _ _ _ _ f fin))
      · have h5 : out.length + (cB B i + 1) ≤ 254 := by have := of_decide_eq_false h5; rw [eL] at this; omega
        refine ⟨(p, i + (cB B i + 1), out ++ (B.drop i).take (cB B i + 1), bh), ⟨hp, h4, by show (out ++ (B.drop i).take (cB B i + 1)).length ≤ 254; rw [List.length_append, htl]; exact h5, ⟨hb1, hb2⟩, fun r hr => hinv r (.lab (by omega) h2 h3 (by omega) h5 hr)⟩, ?_, ?_⟩
        · show p * (n + 2) + (n + 1 - (i + (cB B i + 1))) < p * (n + 2) + (n + 1 - i); omega
        · exact rc_slots [1, 2] rfl rfl rfl (fun l e => by cases e) (by decide) (by decide) rfl rfl (wr_of rfl) ⟨⟨_, rfl, .sl _ _ _ _ _ rfl⟩, ⟨_, rfl, .int _ _⟩, ⟨_, rfl, .ptr _ _ _ rfl⟩, ⟨_, rfl, .ptr _ _ _ rfl⟩, ⟨_, rfl, .string _⟩, ⟨_, rfl, .int _ _⟩, ⟨_, rfl, .int _ _⟩, ⟨_, rfl, by rw [← e2]; exact .int _ _⟩, trivial⟩ ⟨⟨by decide, _, rfl, .sameW (byV_plain l)⟩, ⟨by decide, _, rfl, .same rfl⟩, ⟨by decide, _, rfl, .same rfl⟩, trivial⟩ .nil
  have h3 : 63 < cB B i := by rw [ec] at h3; have := of_decide_eq_false h3; omega
  refine ifK (fun h4 => ?_) (fun h4 => ?_)
  · have h4 : cB B i < 192 := by rw [ec] at h4; have := of_decide_eq_true h4; omega
    have fin := hinv _ (.bad (by omega) h3 h4)
    exact And.intro rfl (rc_end (rc_slots [1] rfl rfl rfl (fun l e => by cases e) (by decide) (by decide) rfl rfl (wr_of rfl) (d := 7) (d2 := 2) (lv := [(4, .string ⟨([]).toArray⟩), (5, .int .i64 (0)), (6, .pointer (some ⟨1, 0, none⟩))]) (bs := [(1, .cells [.int .i64 (4), .int .i64 ((i : Int))] 55)]) (W := []) (m := 2) (df := []) ⟨⟨_, rfl, .string _⟩, ⟨_, rfl, .int _ _⟩, ⟨_, rfl, .ptr _ _ _ rfl⟩, trivial⟩ ⟨⟨by decide, _, rfl, .same rfl⟩, trivial⟩ .nil) (fun f => hret _ _ _ _ f fin))
  have h4 : 192 ≤ cB B i := by rw [ec] at h4; have := of_decide_eq_false h4; omega
  refine ifK (fun h5 => ?_) (fun h5 => ?_)
  · have h5 : n < i + 2 := by have := of_decide_eq_true h5; rw [e1] at this; omega
    refine And.intro ?_ ?_
    · kernel_rfl
    have fin := hinv _ (.pshort (by omega) h4 (by omega))
    rw [hlB] at fin
    exact And.intro rfl (rc_end (rc_slots [1] rfl rfl rfl (fun l e => by cases e) (by decide) (by decide) rfl rfl (wr_of rfl) (d := 7) (d2 := 2) (lv := [(4, .string ⟨([]).toArray⟩), (5, .int .i64 (0)), (6, .pointer (some ⟨1, 0, none⟩))]) (bs := [(1, .cells [.int .i64 (4), .int .i64 ((n : Int))] 55)]) (W := []) (m := 2) (df := []) ⟨⟨_, rfl, .string _⟩, ⟨_, rfl, .int _ _⟩, ⟨_, rfl, .ptr _ _ _ rfl⟩, trivial⟩ ⟨⟨by decide, _, rfl, .same rfl⟩, trivial⟩ .nil) (fun f => hret _ _ _ _ f fin))
  have h5 : i + 2 ≤ n := by have := of_decide_eq_false h5; rw [e1] at this; omega
  refine ifK (fun _ => ?_) (fun h6 => absurd h6 (by rw [e1]; simp [inI]; omega))
  refine Exists.intro (cB B (i + 1) : Int) (And.intro (by rw [h1s, e1, show ((i : Int) + 1).toNat = i + 1 by omega]; exact hcell (i + 1) (by omega)) ?_)
  have hb2' := cB_lt B (i + 1)
  have et : IntKind.i64.wrap (IntKind.i64.wrap (256 * IntKind.i64.wrap (IntKind.i64.wrap (cB B i : Int) - 192)) + IntKind.i64.wrap (cB B (i + 1) : Int)) = (toB B i : Int) := by
    unfold toB
    rw [ec, wrapM (x := (cB B i : Int) - 192) (by omega) (by omega), wrapM (x := 256 * ((cB B i : Int) - 192)) (by omega) (by omega), wrapM (x := (cB B (i + 1) : Int)) (by omega) (by omega), wrapM (by omega) (by omega)]; omega
  refine ifK (fun h6 => ?_) (fun h6 => ?_)
  · have h6 : p ≤ toB B i := by have := of_decide_eq_true h6; rw [et] at this; omega
    have fin := hinv _ (.ploop (by omega) h4 (by omega) h6)
    exact And.intro rfl (rc_end (rc_slots [1] rfl rfl rfl (fun l e => by cases e) (by decide) (by decide) rfl rfl (wr_of rfl) (d := 7) (d2 := 2) (lv := [(4, .string ⟨([]).toArray⟩), (5, .int .i64 (0)), (6, .pointer (some ⟨1, 0, none⟩))]) (bs := [(1, .cells [.int .i64 (150), .int .i64 ((i : Int))] 55)]) (W := []) (m := 2) (df := []) ⟨⟨_, rfl, .string _⟩, ⟨_, rfl, .int _ _⟩, ⟨_, rfl, .ptr _ _ _ rfl⟩, trivial⟩ ⟨⟨by decide, _, rfl, .same rfl⟩, trivial⟩ .nil) (fun f => hret _ _ _ _ f fin))
  have h6 : toB B i < p := by have := of_decide_eq_false h6; rw [et] at this; omega
  have hst : ∀ r, Rd B a (toB B i) (toB B i) out (if bh < 0 then (i : Int) + 2 else bh) r → Rd B a a a [] (-1) r := fun r hr => hinv r (.ptr (by omega) h4 (by omega) h6 hr)
  have hmu : (toB B i) * (n + 2) + (n + 1 - toB B i) < p * (n + 2) + (n + 1 - i) := by
    have := Nat.mul_le_mul_right (n + 2) (show toB B i + 1 ≤ p from h6)
    rw [Nat.add_mul, Nat.one_mul] at this; omega
  refine ifK (fun h7 => ?_) (fun h7 => ?_)
  · have h7 : bh < 0 := of_decide_eq_true h7
    simp only [if_pos h7] at hst
    refine ⟨(toB B i, toB B i, out, (i : Int) + 2), ⟨by show toB B i ≤ n; omega, by show toB B i ≤ n; omega, hout, ⟨by show -1 ≤ (i : Int) + 2; omega, by show (i : Int) + 2 ≤ _; omega⟩, hst⟩, hmu, ?_⟩
    exact rc_slots [1, 2] rfl rfl rfl (fun l e => by cases e) (by decide) (by decide) rfl rfl (wr_of rfl) ⟨⟨_, rfl, .sl _ _ _ _ _ rfl⟩, ⟨_, rfl, .int _ _⟩, ⟨_, rfl, .ptr _ _ _ rfl⟩, ⟨_, rfl, .ptr _ _ _ rfl⟩, ⟨_, rfl, .string _⟩, ⟨_, rfl, by rw [show IntKind.i64.wrap ((i : Int) + 2) = (i : Int) + 2 from wrapM (by omega) (by omega)]; exact .int _ _⟩, ⟨_, rfl, by rw [← et]; exact .int _ _⟩, ⟨_, rfl, by rw [← et]; exact .int _ _⟩, trivial⟩ ⟨⟨by decide, _, rfl, .sameW (byV_plain l)⟩, ⟨by decide, _, rfl, .same rfl⟩, ⟨by decide, _, rfl, .same rfl⟩, trivial⟩ .nil
  · have h7 : ¬ bh < 0 := of_decide_eq_false h7
    simp only [if_neg h7] at hst
    refine ⟨(toB B i, toB B i, out, bh), ⟨by show toB B i ≤ n; omega, by show toB B i ≤ n; omega, hout, ⟨hb1, hb2⟩, hst⟩, hmu, ?_⟩
    exact rc_slots [1, 2] rfl rfl rfl (fun l e => by cases e) (by decide) (by decide) rfl rfl (wr_of rfl) ⟨⟨_, rfl, .sl _ _ _ _ _ rfl⟩, ⟨_, rfl, .int _ _⟩, ⟨_, rfl, .ptr _ _ _ rfl⟩, ⟨_, rfl, .ptr _ _ _ rfl⟩, ⟨_, rfl, .string _⟩, ⟨_, rfl, .int _ _⟩, ⟨_, rfl, by rw [← et]; exact .int _ _⟩, ⟨_, rfl, by rw [← et]; exact .int _ _⟩, trivial⟩ ⟨⟨by decide, _, rfl, .sameW (byV_plain l)⟩, ⟨by decide, _, rfl, .same rfl⟩, ⟨by decide, _, rfl, .same rfl⟩, trivial⟩ .nil
set_option maxRecDepth 100000 in
theorem rread_fn (l : Bl) (o n c : Nat) (x : Int) (h : o + n ≤ l.length) (hn : n ≤ 1000000000) (hcap : c = U ∨ n ≤ c ∧ c ≤ 9223372036854775807) : ∃ r, FnS Try.prog 0 58 [.slice (some ⟨0, o, none⟩) n c, .int .i64 x] (heap 1 [(0, .win (l.map byV) 1)]) 1 r ∧ wrP ((l.drop o).take n) x r := by
  have hlB := lenB h
  refine fn_sx mixed tbW6 [0] Try.func58 (c := bodyOf Try.f58) (by kernel_rfl) ?_
  refine ifK (fun h1 => ?_) (fun h1 => ?_)
  · exact ⟨⟨[], 0, 5, 0⟩, .inl ⟨.inl (of_decide_eq_true h1), rfl⟩, _, _, _, rfl, wr_ge rfl⟩
  have h1 : ¬ x < 0 := of_decide_eq_false h1
  refine ifK (fun h2 => ?_) (fun h2 => ?_)
  · exact ⟨⟨[], 0, 5, 0⟩, .inl ⟨.inr (by rw [hlB]; exact of_decide_eq_true h2), rfl⟩, _, _, _, rfl, wr_ge rfl⟩
  have h2 : ¬ x > (n : Int) := of_decide_eq_false h2
  obtain ⟨a, rfl⟩ := Int.eq_ofNat_of_zero_le (show 0 ≤ x by omega)
  refine rread_loop l o n c a h hn hcap (by omega) (rc_slots [1, 2] rfl rfl rfl (fun l e => by cases e) (by decide) (by decide) rfl rfl (wr_of rfl) ⟨⟨_, rfl, .sl _ _ _ _ _ rfl⟩, ⟨_, rfl, .int _ _⟩, ⟨_, rfl, .ptr _ _ _ rfl⟩, ⟨_, rfl, .ptr _ _ _ rfl⟩, ⟨_, rfl, .string _⟩, ⟨_, rfl, .int _ _⟩, ⟨_, rfl, .int _ _⟩, ⟨_, rfl, .int _ _⟩, trivial⟩ ⟨⟨by decide, _, rfl, .sameW (byV_plain l)⟩, ⟨by decide, _, rfl, .same rfl⟩, ⟨by decide, _, rfl, .same rfl⟩, trivial⟩ .nil) (fun s nx e pos f hr => ?_)
  exact ⟨⟨s, nx, e, pos⟩, .inr ⟨a, rfl, by rw [hlB]; omega, hr⟩, _, _, _, rfl, wr_ge rfl⟩
noncomputable def cq_rread : CtQ Try.prog :=
  { f := 58, X := RdB × Int, pre := fun x a H _ => a = [x.1.sl, .int .i64 x.2] ∧ x.1.at H ∧ x.1.small, Q := fun x v => ∃ r : RR, v = rrV r ∧ rdOk x.1.B x.2 r,
    ok := fun ⟨⟨b, o, n, c, l⟩, i⟩ a H m ⟨h1, h2, h3⟩ => by
      subst h1
      obtain ⟨r, hF, res, hr, H', m', wr, rfl, hw⟩ := rread_fn l o n c i h2.2 h3.1 h3.2
      exact ⟨rrV res, callOK_reads [b] hF hw dup_one (.cons _ _ _ _ (.sl _ _ _ _ _ rfl) (plain_rl rfl)) (rd_blocks h2.1 (byV_plain l)) (rrV_plain res), res, rfl, hr⟩,
    uniq := fun ⟨x, i⟩ ⟨y, j⟩ a H m ⟨h1, h2, _⟩ ⟨k1, k2, _⟩ => by
      rw [h1] at k1
      simp only [List.cons.injEq, Value.int.injEq, true_and, and_true] at k1
      rw [RdB.uniq k1.1 h2 k2, k1.2] }
noncomputable def ct_rreadY : Ct Try.prog 0 := cq_rread.ctY RR rrV (fun (x : RdB × Int) r => rdOk x.1.B x.2 r) (fun _ _ h => h)
end Go.Proofs.Ytmpaeabkdhjamaa
/- DERIVED. What is known of the document's names, as contracts. -/
namespace Go.Proofs.Ytmpaeabkdhjamaa
open Go Go.RowKit
def ct_rsame : Ct Try.prog 0 := Ct.str2 39 (fun s t => .bool (sameNames (bs s) (bs t))) (fun _ _ => rfl) (fun s t w hs ht => by have := refSame_any (bs s) (bs t) w hs ht; rwa [str_bs, str_bs] at this)
end Go.Proofs.Ytmpaeabkdhjamaa
/- DERIVED. Records: numbers that may be. -/
namespace Go.Proofs.Ytmpaeabkdhjamaa
open Go Go.RowKit
noncomputable def tbR1 : Tb Try.prog 0 := tbOf mixed []
def numB (n m : Int) : Bool := decide (0 ≤ n ∧ n ≤ m)
set_option maxRecDepth 100000 in
theorem number_fn (n m : Int) : ∃ r, FnS Try.prog 0 33 [.int .i64 n, .int .i64 m] .e 0 r ∧ ∃ H k wr, r = .ret (.bool (numB n m)) H k wr := by
  refine fn_sx mixed tbR1 [] Try.func33 (c := bodyOf Try.f33) (by kernel_rfl) ?_
  unfold numB
  refine ifK (fun h1 => ?_) (fun h1 => ?_)
  · have h1 := of_decide_eq_true h1
    rw [show decide (0 ≤ n ∧ n ≤ m) = decide (n ≤ m) by rw [decide_eq_decide]; exact ⟨fun h => h.2, fun h => ⟨h1, h⟩⟩]
    exact ⟨_, _, _, rfl⟩
  · have h1 := of_decide_eq_false h1
    rw [show decide (0 ≤ n ∧ n ≤ m) = false by rw [decide_eq_false_iff_not]; exact fun h => h1 h.1]
    exact ⟨_, _, _, rfl⟩
set_option maxRecDepth 100000 in
theorem short_fn (n : Int) : ∃ r, FnS Try.prog 0 36 [.int .i64 n] .e 0 r ∧ ∃ H k wr, r = .ret (.bool (numB n 65535)) H k wr := by
  refine fn_sx mixed tbR1 [] Try.func36 (c := bodyOf Try.f36) (by kernel_rfl) ?_
  unfold numB
  refine ifK (fun h1 => ?_) (fun h1 => ?_)
  · have h1 := of_decide_eq_true h1
    rw [show decide (0 ≤ n ∧ n ≤ 65535) = decide (n ≤ 65535) by rw [decide_eq_decide]; exact ⟨fun h => h.2, fun h => ⟨h1, h⟩⟩]
    exact ⟨_, _, _, rfl⟩
  · have h1 := of_decide_eq_false h1
    rw [show decide (0 ≤ n ∧ n ≤ 65535) = false by rw [decide_eq_false_iff_not]; exact fun h => h1 h.1]
    exact ⟨_, _, _, rfl⟩
/-- A function of plain data of one shape, as a contract. -/
def Ct.sh {X : Type} (f : FuncId) (mt : List Value → Option X) (args : X → List Value) (hm : ∀ l x, mt l = some x → l = args x) (pre : X → Bool) (out : X → Value) (ha : ∀ x, plainL (args x) = true) (hp : ∀ x, plainV 8 (out x) = true) (ok : ∀ x, pre x = true → ∃ H m wr, FnS Try.prog 0 f (args x) .e 0 (.ret (out x) H m wr)) : Ct Try.prog 0 where
  f := f
  res l H n := match mt l with | some x => bif pre x then .ret (out x) H n [] else .bad "not such" [] | none => .bad "arguments" []
  ok l H n := by
    cases h : mt l with
    | none => trivial
    | some x =>
      cases hx : pre x with
      | false => simp only [hx]; trivial
      | true =>
        simp only [hx, cond_true]
        rw [hm l x h]
        obtain ⟨_, _, _, hF⟩ := ok x hx
        exact callOK_pure hF (ha x) (hp x) H n
  ck l H n K := match mt l with | some x => pre x = true ∧ K (.ret (out x) H n []) | none => False
  imp l H n K h := by
    cases hm : mt l with
    | none => rw [hm] at h; exact h.elim
    | some x =>
      rw [hm] at h
      obtain ⟨h1, h2⟩ := h
      simp only [h1, cond_true]; exact h2
def mtI2 : List Value → Option (Int × Int) | [.int .i64 a, .int .i64 b] => some (a, b) | _ => none
def mtI1 : List Value → Option Int | [.int .i64 a] => some a | _ => none
theorem mtI2_ok (l : List Value) (x : Int × Int) (h : mtI2 l = some x) : l = [.int .i64 x.1, .int .i64 x.2] := by
  unfold mtI2 at h; split at h <;> cases h; rfl
theorem mtI1_ok (l : List Value) (x : Int) (h : mtI1 l = some x) : l = [.int .i64 x] := by
  unfold mtI1 at h; split at h <;> cases h; rfl
/-- A function of numbers of which nothing is asked. -/
def Ct.i2 (f : FuncId) (out : Int → Int → Value) (hp : ∀ x y, plainV 8 (out x y) = true) (ok : ∀ x y, ∃ H m wr, FnS Try.prog 0 f [.int .i64 x, .int .i64 y] .e 0 (.ret (out x y) H m wr)) : Ct Try.prog 0 where
  f := f
  res l H n := match l with | [.int .i64 x, .int .i64 y] => .ret (out x y) H n [] | _ => .bad "arguments" []
  ok l H n := by
    split
    · rename_i x y
      obtain ⟨_, _, _, h⟩ := ok x y
      exact callOK_pure h rfl (hp x y) H n
    · trivial
  ck l H n K := match l with | [.int .i64 x, .int .i64 y] => K (.ret (out x y) H n []) | _ => False
  imp l H n K h := by
    split at h
    · exact h
    · exact h.elim
def Ct.i1 (f : FuncId) (out : Int → Value) (hp : ∀ x, plainV 8 (out x) = true) (ok : ∀ x, ∃ H m wr, FnS Try.prog 0 f [.int .i64 x] .e 0 (.ret (out x) H m wr)) : Ct Try.prog 0 where
  f := f
  res l H n := match l with | [.int .i64 x] => .ret (out x) H n [] | _ => .bad "arguments" []
  ok l H n := by
    split
    · rename_i x
      obtain ⟨_, _, _, h⟩ := ok x
      exact callOK_pure h rfl (hp x) H n
    · trivial
  ck l H n K := match l with | [.int .i64 x] => K (.ret (out x) H n []) | _ => False
  imp l H n K h := by
    split at h
    · exact h
    · exact h.elim
def ct_number : Ct Try.prog 0 := Ct.i2 33 (fun x y => .bool (numB x y)) (fun _ _ => rfl) (fun x y => by obtain ⟨r, h, H, m, wr, rfl⟩ := number_fn x y; exact ⟨H, m, wr, h⟩)
def ct_rshort : Ct Try.prog 0 := Ct.i1 36 (fun x => .bool (numB x 65535)) (fun _ => rfl) (fun x => by obtain ⟨r, h, H, m, wr, rfl⟩ := short_fn x; exact ⟨H, m, wr, h⟩)
/-- A record, its parts. -/
structure RcX where
  n : ByteArray
  t : Int
  c : Int
  ttl : Int
  d : ByteArray
def RcX.v (x : RcX) : Value := .agg #[.string x.n, .int .i64 x.t, .int .i64 x.c, .int .i64 x.ttl, .string x.d]
def RcX.ok (x : RcX) : Bool := x.n.data.size.ble 100000000 && x.d.data.size.ble 100000000
noncomputable def tbR2 : Tb Try.prog 0 := tbOf mixed [ct_number, ct_rshort, ct_check, ct_rcheck, ct_rdcheck, ct_rrdcheck, ct_lower, ct_rdlower]
end Go.Proofs.Ytmpaeabkdhjamaa
/- DERIVED. Records: Check, lower. -/
namespace Go.Proofs.Ytmpaeabkdhjamaa
open Go Go.RowKit
def mtR : List Value → Option RcX
  | [.agg ⟨[.string n, .int .i64 t, .int .i64 c, .int .i64 ttl, .string d]⟩] => some ⟨n, t, c, ttl, d⟩
  | _ => none
def mtRR : List Value → Option (RcX × RcX)
  | [.agg ⟨[.string n, .int .i64 t, .int .i64 c, .int .i64 ttl, .string d]⟩, .agg ⟨[.string n', .int .i64 t', .int .i64 c', .int .i64 ttl', .string d']⟩] => some (⟨n, t, c, ttl, d⟩, ⟨n', t', c', ttl', d'⟩)
  | _ => none
theorem mtR_ok (l : List Value) (x : RcX) (h : mtR l = some x) : l = [x.v] := by
  unfold mtR at h; split at h <;> cases h; rfl
theorem mtRR_ok (l : List Value) (x : RcX × RcX) (h : mtRR l = some x) : l = [x.1.v, x.2.v] := by
  unfold mtRR at h; split at h <;> cases h; rfl
theorem RcX.ok1 {x : RcX} (h : x.ok = true) : (bs x.n).length ≤ 100000000 ∧ (bs x.d).length ≤ 100000000 := by
  unfold RcX.ok at h
  simp only [Bool.and_eq_true] at h
  rw [← bs_size, ← bs_size]
  exact ⟨Nat.le_of_ble_eq_true h.1, Nat.le_of_ble_eq_true h.2⟩
theorem size8' {s : ByteArray} (h : (bs s).length ≤ 100000000) : s.data.size.ble 100000000 = true := by rw [bs_size]; exact Nat.ble_eq_true_of_le h
/-- What Check tells of a record. -/
def recC (x : RcX) : Int := if (labels (bs x.n)).2 ≠ 0 then (labels (bs x.n)).2 else if numB x.t 65535 && numB x.c 65535 && numB x.ttl 2147483647 then checkD x.t (bs x.d) else 5
set_option maxRecDepth 100000 in
theorem rcheckR_fn (x : RcX) (hx : x.ok = true) : ∃ r, FnS Try.prog 0 11 [x.v] .e 0 r ∧ ∃ H k wr, r = .ret (.int .i64 (recC x)) H k wr := by
  obtain ⟨hn, hd⟩ := RcX.ok1 hx
  refine fn_sx mixed tbR2 [] Try.func11 (c := bodyOf Try.f11) (by kernel_rfl) ?_
  unfold recC
  refine And.intro (shortB_of (by omega)) ?_
  refine ifK (fun h1 => ?_) (fun h1 => ?_)
  · rw [if_pos (by simpa using h1)]; exact ⟨_, _, _, rfl⟩
  rw [if_neg (by simpa using h1)]
  refine ifK (fun h2 => ?_) (fun h2 => ?_)
  · rw [show numB x.t 65535 = false by simpa using h2]; exact ⟨_, _, _, rfl⟩
  rw [show numB x.t 65535 = true by simpa using h2]
  refine ifK (fun h3 => ?_) (fun h3 => ?_)
  · rw [show numB x.c 65535 = false by simpa using h3]; exact ⟨_, _, _, rfl⟩
  rw [show numB x.c 65535 = true by simpa using h3]
  refine ifK (fun h4 => ?_) (fun h4 => ?_)
  · rw [show numB x.ttl 2147483647 = false by simpa using h4]; exact ⟨_, _, _, rfl⟩
  rw [show numB x.ttl 2147483647 = true by simpa using h4]
  refine And.intro (shortB_of (by omega)) ?_
  exact ⟨_, _, _, rfl⟩
set_option maxRecDepth 100000 in
theorem rrcheckR_fn (x : RcX) (hx : x.ok = true) : ∃ r, FnS Try.prog 0 12 [x.v] .e 0 r ∧ ∃ H k wr, r = .ret (.int .i64 (recC x)) H k wr := by
  obtain ⟨hn, hd⟩ := RcX.ok1 hx
  refine fn_sx mixed tbR2 [] Try.func12 (c := bodyOf Try.f12) (by kernel_rfl) ?_
  unfold recC
  refine And.intro (shortB_of (by omega)) ?_
  refine ifK (fun h1 => ?_) (fun h1 => ?_)
  · rw [if_pos (by simpa using h1)]; exact ⟨_, _, _, rfl⟩
  rw [if_neg (by simpa using h1)]
  refine ifK (fun h2 => ?_) (fun h2 => ?_)
  · rw [show numB x.t 65535 = false by simpa using h2]; exact ⟨_, _, _, rfl⟩
  rw [show numB x.t 65535 = true by simpa using h2]
  refine ifK (fun h3 => ?_) (fun h3 => ?_)
  · rw [show numB x.c 65535 = false by simpa using h3]; exact ⟨_, _, _, rfl⟩
  rw [show numB x.c 65535 = true by simpa using h3]
  refine ifK (fun h4 => ?_) (fun h4 => ?_)
  · have h4 := of_decide_eq_true h4
    rw [show numB x.ttl 2147483647 = false by unfold numB; rw [decide_eq_false_iff_not]; omega]; exact ⟨_, _, _, rfl⟩
  have h4 := of_decide_eq_false h4
  refine ifK (fun h5 => ?_) (fun h5 => ?_)
  · have h5 := of_decide_eq_true h5
    rw [show numB x.ttl 2147483647 = false by unfold numB; rw [decide_eq_false_iff_not]; omega]; exact ⟨_, _, _, rfl⟩
  have h5 := of_decide_eq_false h5
  rw [show numB x.ttl 2147483647 = true by unfold numB; rw [decide_eq_true_iff]; omega]
  refine And.intro (size8' hd) ?_
  exact ⟨_, _, _, rfl⟩
/-- A record in lower form. -/
def RcX.low (x : RcX) : RcX := ⟨⟨(lower (bs x.n)).toArray⟩, x.t, x.c, 0, ⟨(lowerD x.t (bs x.d)).toArray⟩⟩
set_option maxRecDepth 100000 in
theorem rlowR_fn (x : RcX) (hx : x.ok = true) : ∃ r, FnS Try.prog 0 38 [x.v] .e 0 r ∧ ∃ H k wr, r = .ret x.low.v H k wr := by
  obtain ⟨hn, hd⟩ := RcX.ok1 hx
  refine fn_sx mixed tbR2 [] Try.func38 (c := bodyOf Try.f38) (by kernel_rfl) ?_
  refine And.intro ?_ ?_
  · kernel_rfl
  have e1 : shortB x.n = true := shortB_of (by omega)
  have e2 : shortB x.d = true := shortB_of (by omega)
  refine And.intro e1 ?_
  refine And.intro e2 ?_
  exact ⟨_, _, _, rfl⟩
def ct_recCheck : Ct Try.prog 0 := Ct.sh 11 mtR (fun x => [x.v]) mtR_ok RcX.ok (fun x => .int .i64 (recC x)) (fun _ => rfl) (fun _ => rfl) (fun x hx => by obtain ⟨r, h, H, m, wr, rfl⟩ := rcheckR_fn x hx; exact ⟨H, m, wr, h⟩)
def ct_rrecCheck : Ct Try.prog 0 := Ct.sh 12 mtR (fun x => [x.v]) mtR_ok RcX.ok (fun x => .int .i64 (recC x)) (fun _ => rfl) (fun _ => rfl) (fun x hx => by obtain ⟨r, h, H, m, wr, rfl⟩ := rrcheckR_fn x hx; exact ⟨H, m, wr, h⟩)
def ct_recLow : Ct Try.prog 0 := Ct.sh 38 mtR (fun x => [x.v]) mtR_ok RcX.ok (fun x => x.low.v) (fun _ => rfl) (fun _ => rfl) (fun x hx => by obtain ⟨r, h, H, m, wr, rfl⟩ := rlowR_fn x hx; exact ⟨H, m, wr, h⟩)
noncomputable def tbR3 : Tb Try.prog 0 := tbOf mixed [ct_recCheck, ct_rrecCheck, ct_recLow, ct_rsame, ct_rrdlower]
end Go.Proofs.Ytmpaeabkdhjamaa
