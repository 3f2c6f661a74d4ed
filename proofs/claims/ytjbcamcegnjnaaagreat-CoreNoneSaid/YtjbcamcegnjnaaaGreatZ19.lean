/- DERIVED. Texts put together: N1, D1, D2, D3, D4, D5, D5b, D6, N2, E1, E2, E3, E4P, F1, F2, F3, F4P, F5, N3, R1, R2, R3, R4, Ms1, Ms2, Ms3, Cn1, Cn2. -/
import Derived.Test.YtjbcamcegnjnaaaGreatProg
import Derived.Test.YtjbcamcegnjnaaaGreatZ12
import Derived.Test.YtjbcamcegnjnaaaGreatZ13
import Derived.Test.YtjbcamcegnjnaaaGreatZ18
/- DERIVED. What is known of names, as contracts. -/
namespace Go.Proofs.YtjbcamcegnjnaaaGreat
open Go Go.RowKit


/-- A string's bytes. -/
def bs (s : ByteArray) : Bs := s.data.toList
theorem str_bs (s : ByteArray) : str (bs s) = .string s := by simp [str, bs]
def shortB (s : ByteArray) : Bool := s.data.size.ble 1000000000
theorem short_len {s : ByteArray} (h : shortB s = true) : (bs s).length ≤ 1000000000 := by unfold bs; rw [Array.length_toList]; exact Nat.le_of_ble_eq_true h
/-- A string, not too long. -/
def gStr : List Value → Option Bool
  | [.string s] => some (shortB s)
  | _ => none
def argS (l : List Value) : ByteArray := match l with | .string s :: _ => s | _ => ⟨#[]⟩
theorem gStr_spec {l : List Value} (h : gStr l = some true) : ∃ s, l = [.string s] ∧ (bs s).length ≤ 1000000000 := by
  unfold gStr at h
  split at h
  · exact ⟨_, rfl, short_len (by simpa using h)⟩
  · cases h
/-- A function of a string. -/
def Ct.str1 (f : FuncId) (out : ByteArray → Value) (hp : ∀ s, plainV 8 (out s) = true) (ok : ∀ s w, (bs s).length ≤ 1000000000 → Calls Tryz.prog f #[.string s] w fun e w' => e = .returned (out s) ∧ Below w.heap.size w w') : Ct Tryz.prog 0 where
  f := f
  res l H n := match l with | [.string s] => bif shortB s then .ret (out s) H n [] else .bad "long" [] | _ => .bad "arguments" []
  ok l H n := by
    split
    · rename_i s
      cases hs : shortB s with
      | false => trivial
      | true => exact callOK_calls (fun w => ok s w (short_len hs)) rfl (hp s) H n
    · trivial
  ck l H n K := match l with | [.string s] => shortB s = true ∧ K (.ret (out s) H n []) | _ => False
  imp l H n K h := by
    split at h
    · obtain ⟨h1, h2⟩ := h
      simp only [h1, cond_true]; exact h2
    · exact h.elim
def Ct.str2 (f : FuncId) (out : ByteArray → ByteArray → Value) (hp : ∀ s t, plainV 8 (out s t) = true) (ok : ∀ s t w, (bs s).length ≤ 1000000000 → (bs t).length ≤ 1000000000 → Calls Tryz.prog f #[.string s, .string t] w fun e w' => e = .returned (out s t) ∧ Below w.heap.size w w') : Ct Tryz.prog 0 where
  f := f
  res l H n := match l with | [.string s, .string t] => bif shortB s && shortB t then .ret (out s t) H n [] else .bad "long" [] | _ => .bad "arguments" []
  ok l H n := by
    split
    · rename_i s t
      cases hs : (shortB s && shortB t) with
      | false => trivial
      | true =>
        simp only [Bool.and_eq_true] at hs
        exact callOK_calls (fun w => ok s t w (short_len hs.1) (short_len hs.2)) rfl (hp s t) H n
    · trivial
  ck l H n K := match l with | [.string s, .string t] => (shortB s && shortB t) = true ∧ K (.ret (out s t) H n []) | _ => False
  imp l H n K h := by
    split at h
    · obtain ⟨h1, h2⟩ := h
      simp only [h1, cond_true]; exact h2
    · exact h.elim

def sameNames (a b : Bs) : Bool := decide ((labels a).2 = 0 ∧ (labels b).2 = 0 ∧ lower a = lower b)

def ct_check : Ct Tryz.prog 0 := Ct.str1 9 (fun s => .int .i64 (labels (bs s)).2) (fun _ => rfl) (fun s w hs => by have := nameCheck_any (bs s) w hs; rwa [str_bs] at this)
def ct_lower : Ct Tryz.prog 0 := Ct.str1 47 (fun s => str (lower (bs s))) (fun _ => rfl) (fun s w hs => by have := lower_any (bs s) w hs; rwa [str_bs] at this)
theorem labels_plain (s : ByteArray) : plainL ((labels (bs s)).1.map str) = true := by simp [plainL, plainV, str]
def ct_labels : Ct Tryz.prog 0 := Ct.guard 38 gStr (fun l H n => listOut 9 1 ((labels (bs (argS l))).1.map str) (labels (bs (argS l))).1.length (fun v => .tuple #[v, .int .i64 (labels (bs (argS l))).2]) H n) (fun l H n h => by
  obtain ⟨s, rfl, hs⟩ := gStr_spec h
  refine callOK_list rfl (labels_plain s) (by kernel_rfl) (fun E v v' h => .tuple _ _ (.cons _ _ _ _ h (.cons _ _ _ _ (.int _ _) .nil))) (fun w => ?_) H n
  have := labels_any (bs s) w hs
  rw [str_bs] at this
  refine this.mono ?_
  rintro e w' ⟨v, h1, h2, h3, h4⟩
  exact ⟨v, h1, h2, h3, fun h => h4 (List.length_eq_zero_iff.1 h)⟩)
end Go.Proofs.YtjbcamcegnjnaaaGreat
/- DERIVED. Data: texts, names in front. -/
namespace Go.Proofs.YtjbcamcegnjnaaaGreat
open Go Go.RowKit

theorem bs_sub (s : ByteArray) (l h : Nat) : bs (subS s l h) = ((bs s).take h).drop l := by simp [bs, subS]
theorem bs_size (s : ByteArray) : s.data.size = (bs s).length := by simp [bs]
theorem bs_ext {s t : ByteArray} (h : bs s = bs t) : s = t := ByteArray.ext (Array.toList_inj.1 h)
theorem atS_get (s : ByteArray) (i : Nat) (h : i < (bs s).length) : atS s (i : Int) = (bs s)[i] := by
  unfold atS
  rw [Int.toNat_natCast, List.getD_eq_getElem?_getD]
  show ((bs s)[i]?).getD 0 = _
  rw [List.getElem?_eq_getElem h]; rfl
theorem wrapN {x : Int} (h1 : 0 ≤ x) (h2 : x < 9223372036854775808) : IntKind.i64.wrap x = x := wrap_i64 (by omega) h2
theorem byte_lt (c : UInt8) : c.toNat < 256 := UInt8.toNat_lt c

/-! ### texts -/
def txtF : Nat → Bs → Bool
  | 0, _ => false
  | _ + 1, [] => true
  | n + 1, c :: r => decide (c.toNat ≤ r.length) && txtF n (r.drop c.toNat)
theorem txtF_eq : ∀ (n m : Nat) (l : Bs), l.length < n → l.length < m → txtF n l = txtF m l
  | n + 1, m + 1, [], _, _ => rfl
  | n + 1, m + 1, c :: r, h1, h2 => by
    simp only [txtF]
    rw [txtF_eq n m (r.drop c.toNat) (by simp at h1 ⊢; omega) (by simp at h2 ⊢; omega)]
def txt (l : Bs) : Bool := txtF (l.length + 1) l
theorem txt_nil : txt [] = true := rfl
theorem txt_cons (c : UInt8) (r : Bs) : txt (c :: r) = (decide (c.toNat ≤ r.length) && txt (r.drop c.toNat)) := by
  unfold txt
  simp only [txtF, List.length_cons]
  rw [txtF_eq (r.length + 1) ((r.drop c.toNat).length + 1) _ (by simp; omega) (by omega)]
theorem txt_at (l : Bs) (i : Nat) (h : i < l.length) : txt (l.drop i) = (decide (i + 1 + l[i].toNat ≤ l.length) && txt (l.drop (i + 1 + l[i].toNat))) := by
  rw [List.drop_eq_getElem_cons h, txt_cons, List.drop_drop]
  congr 1
  rw [decide_eq_decide]; simp; omega
def texts (l : Bs) : Bool := !l.isEmpty && txt l

set_option maxRecDepth 100000 in
theorem texts_fn (s : ByteArray) (hs : (bs s).length ≤ 1000000000) : ∃ r, FnS Tryz.prog 0 196 [.string s] .e 0 r ∧ ∃ H m wr, r = .ret (.bool (texts (bs s))) H m wr := by
  refine fn_sx mixed (tbOf mixed []) [] Tryz.func196 (c := bodyOf Tryz.f196) (by kernel_rfl) ?_
  refine loop_go (fun i f => ⟨slots 6 [(0, .string s), (3, .int .i64 (i : Nat))] f, heap 0 [], 0, [], []⟩) (fun i => (bs s).length - i) (fun i => i ≤ (bs s).length ∧ txt (bs s) = txt ((bs s).drop i)) 0 ⟨Nat.zero_le _, rfl⟩
    (rc_slots [] rfl rfl rfl (fun l e => by cases e) List.nodup_nil (fun x hx => by cases hx) rfl rfl (fun k hk _ => hk) ⟨⟨_, rfl, .string _⟩, ⟨_, rfl, .int _ _⟩, trivial⟩ trivial .nil) ?_
  rintro i f ⟨hi, heq⟩
  refine sx_ok (tbOf mixed []) [] 0 _ none mixed _ _ _ ?_
  refine ifK (fun h1 => ?_) (fun h1 => ?_)
  · have h1 : i < (bs s).length := by have := of_decide_eq_true h1; rw [bs_size] at this; omega
    have hb := byte_lt (bs s)[i]
    have hat := atS_get s i h1
    have e1 : IntKind.i64.wrap ((i : Int) + IntKind.i64.wrap (1 + IntKind.i64.wrap ((atS s (i : Int)).toNat : Int))) = ((i + 1 + (bs s)[i].toNat : Nat) : Int) := by
      rw [hat, wrapN (x := (((bs s)[i]).toNat : Int)) (by omega) (by omega), wrapN (x := 1 + (((bs s)[i]).toNat : Int)) (by omega) (by omega), wrapN (by omega) (by omega)]; omega
    refine And.intro (by simp only [inI, bs_size]; simp; omega) ?_
    have hstep := txt_at (bs s) i h1
    refine ifK (fun h2 => ?_) (fun h2 => ?_)
    · have h2 := of_decide_eq_true h2
      rw [e1, bs_size] at h2
      have : texts (bs s) = false := by
        unfold texts; rw [heq, hstep, decide_eq_false (by omega)]; simp
      rw [this]; exact ⟨_, _, _, rfl⟩
    · have h2 := of_decide_eq_false h2
      rw [e1, bs_size] at h2
      refine ⟨i + 1 + (bs s)[i].toNat, ⟨by omega, ?_⟩, by omega, rc_slots [] rfl rfl rfl (fun l e => by cases e) List.nodup_nil (fun x hx => by cases hx) rfl rfl (fun k hk _ => hk) ⟨⟨_, rfl, .string _⟩, slot_int rfl e1, trivial⟩ trivial .nil⟩
      rw [heq, hstep, decide_eq_true (by omega), Bool.true_and]
  · have h1 : ¬ i < (bs s).length := by have := of_decide_eq_false h1; rw [bs_size] at this; omega
    have : texts (bs s) = !(s.data.toList == []) := by
      unfold texts
      rw [heq, List.drop_eq_nil_of_le (by omega), txt_nil, Bool.and_true]
      show (!(bs s).isEmpty) = !(bs s == [])
      cases bs s <;> rfl
    rw [this]; exact ⟨_, _, _, rfl⟩
end Go.Proofs.YtjbcamcegnjnaaaGreat
/- DERIVED. Data: the parts of a type. -/
namespace Go.Proofs.YtjbcamcegnjnaaaGreat
open Go Go.RowKit

def rOf (Q : Value → Tr AObj → Prop) (r : Res) : Prop := match r with | .ret v H _ _ => Q v H | _ => False
def resV (r : Res) : Value := match r with | .ret v _ _ _ => v | _ => .nilFunc

noncomputable def evP (t : Int) : Res := ev Tryz.prog 0 1000 (.call 182 [.int .i64 t]) ⟨.e, .e, 0, [], []⟩
theorem parts_tree (t : Int) (Q : Value → Tr AObj → Prop) : (frcTr (tmpsOf [.int .i64 t] 0 .e) fun T => sx (tbK mixed (g0 := 0) true []) [] 0 (1 + (Tryz.f182.ntmps - 1)) none (bodyOf Tryz.f182) ⟨T, .e, 0, [], []⟩ (fnK (tbK mixed (g0 := 0) true []) Tryz.f182 (rOf Q))) =
    brK (t == 1) (Q (resV (evP 1)) (resH (evP 1))) (brK (t == 28) (Q (resV (evP 28)) (resH (evP 1))) (brK (t == 2) (Q (resV (evP 2)) (resH (evP 1))) (brK (t == 5) (Q (resV (evP 5)) (resH (evP 1))) (brK (t == 12) (Q (resV (evP 12)) (resH (evP 1)))
      (brK (t == 15) (Q (resV (evP 15)) (resH (evP 1))) (brK (t == 6) (Q (resV (evP 6)) (resH (evP 1))) (brK (t == 16) (Q (resV (evP 16)) (resH (evP 1))) (Q (.tuple #[.slice none 0 0, .bool false]) (resH (evP 1)))))))))) := by kernel_rfl

/-- A part: so many bytes, or a name, or texts up to the end. -/
def part (n : Int) (name rest : Bool) : List Value := [.int .i64 n, .bool name, .bool rest]
/-- The parts of the types that are known: how many, their cells. -/
def partsTab : List (Int × Nat × List Value) :=
  [(1, 1, part 4 false false), (28, 1, part 16 false false), (2, 1, part 0 true false), (5, 1, part 0 true false), (12, 1, part 0 true false), (15, 2, part 2 false false ++ part 0 true false),
   (6, 3, part 0 true false ++ part 0 true false ++ part 20 false false), (16, 1, part 0 false true)]
def partsOut (len : Nat) (c : List Value) (H : Tr AObj) (n : Nat) : Res := .ret (.tuple #[.slice (some ⟨n, 0, none⟩) len len, .bool true]) (H.set n (some (.cells c 316))) (n + 1) []
def partsGo (t : Int) (H : Tr AObj) (n : Nat) : List (Int × Nat × List Value) → Res
  | [] => .ret (.tuple #[.slice none 0 0, .bool false]) H n []
  | (k, len, c) :: l => bif t == k then partsOut len c H n else partsGo t H n l
def partsK (t : Int) (H : Tr AObj) (n : Nat) (K : Res → Prop) : List (Int × Nat × List Value) → Prop
  | [] => K (.ret (.tuple #[.slice none 0 0, .bool false]) H n [])
  | (k, len, c) :: l => brK (t == k) (K (partsOut len c H n)) (partsK t H n K l)
theorem partsK_imp {t : Int} {H : Tr AObj} {n : Nat} {K : Res → Prop} : ∀ {l : List (Int × Nat × List Value)}, partsK t H n K l → K (partsGo t H n l)
  | [], h => h
  | (k, len, c) :: l, h => by
    unfold partsK at h
    unfold partsGo
    cases hb : (t == k) with
    | true => rw [hb] at h; exact h
    | false => rw [hb] at h; exact partsK_imp (l := l) h

set_option maxRecDepth 1000000 in
theorem parts_ok (t : Int) (H : Tr AObj) (n : Nat) : CallOK Tryz.prog 0 182 [.int .i64 t] H n (partsGo t H n partsTab) := by
  have main : ∀ v, (frcTr (tmpsOf [.int .i64 t] 0 .e) fun T => sx (tbK mixed (g0 := 0) true []) [] 0 (1 + (Tryz.f182.ntmps - 1)) none (bodyOf Tryz.f182) ⟨T, .e, 0, [], []⟩ (fnK (tbK mixed (g0 := 0) true []) Tryz.f182 (rOf fun v' H' => v' = v ∧ H' = resH (evP 1)))) → ∃ m wr, FnS Tryz.prog 0 182 [.int .i64 t] .e 0 (.ret v (resH (evP 1)) m wr) := by
    intro v h
    obtain ⟨r, h1, h2⟩ := fn_sx mixed (tbK mixed true []) [] Tryz.func182 (c := bodyOf Tryz.f182) (by kernel_rfl) h
    cases r with
    | ret v' H' m wr => obtain ⟨rfl, rfl⟩ := h2; exact ⟨m, wr, h1⟩
    | _ => exact h2.elim
  have one : ∀ (b len : Nat) (c : List Value), (∃ m wr, FnS Tryz.prog 0 182 [.int .i64 t] .e 0 (.ret (.tuple #[.slice (some ⟨b, 0, none⟩) len len, .bool true]) (resH (evP 1)) m wr)) → (resH (evP 1)).get b = some (.cells c 316) → b < JJ → plainL c = true → CallOK Tryz.prog 0 182 [.int .i64 t] H n (partsOut len c H n) := by
    rintro b len c ⟨m, wr, hF⟩ hb hJ hp
    exact callOK_fresh1 (fun n => .tuple #[.slice (some ⟨n, 0, none⟩) len len, .bool true]) hF rfl hb hJ hp (fun n => .tuple _ _ (.cons _ _ _ _ (.sl _ _ _ _ _ (tau_one _ _)) (.cons _ _ _ _ (.bool _) .nil))) H n
  unfold partsTab
  simp only [partsGo]
  cases h1 : (t == 1) with
  | true => exact one 2 1 _ (main _ (by rw [parts_tree, h1]; exact ⟨(by kernel_rfl), rfl⟩)) (by kernel_rfl) (by decide) rfl
  | false =>
  cases h2 : (t == 28) with
  | true => exact one 3 1 _ (main _ (by rw [parts_tree, h1, h2]; exact ⟨(by kernel_rfl), rfl⟩)) (by kernel_rfl) (by decide) rfl
  | false =>
  cases h3 : (t == 2) with
  | true => exact one 4 1 _ (main _ (by rw [parts_tree, h1, h2, h3]; exact ⟨(by kernel_rfl), rfl⟩)) (by kernel_rfl) (by decide) rfl
  | false =>
  cases h4 : (t == 5) with
  | true => exact one 5 1 _ (main _ (by rw [parts_tree, h1, h2, h3, h4]; exact ⟨(by kernel_rfl), rfl⟩)) (by kernel_rfl) (by decide) rfl
  | false =>
  cases h5 : (t == 12) with
  | true => exact one 6 1 _ (main _ (by rw [parts_tree, h1, h2, h3, h4, h5]; exact ⟨(by kernel_rfl), rfl⟩)) (by kernel_rfl) (by decide) rfl
  | false =>
  cases h6 : (t == 15) with
  | true => exact one 7 2 _ (main _ (by rw [parts_tree, h1, h2, h3, h4, h5, h6]; exact ⟨(by kernel_rfl), rfl⟩)) (by kernel_rfl) (by decide) rfl
  | false =>
  cases h7 : (t == 6) with
  | true => exact one 8 3 _ (main _ (by rw [parts_tree, h1, h2, h3, h4, h5, h6, h7]; exact ⟨(by kernel_rfl), rfl⟩)) (by kernel_rfl) (by decide) rfl
  | false =>
  cases h8 : (t == 16) with
  | true => exact one 9 1 _ (main _ (by rw [parts_tree, h1, h2, h3, h4, h5, h6, h7, h8]; exact ⟨(by kernel_rfl), rfl⟩)) (by kernel_rfl) (by decide) rfl
  | false =>
    obtain ⟨m, wr, hF⟩ := main (.tuple #[.slice none 0 0, .bool false]) (by rw [parts_tree, h1, h2, h3, h4, h5, h6, h7, h8]; exact ⟨rfl, rfl⟩)
    exact callOK_pure hF rfl rfl H n

def ct_parts : Ct Tryz.prog 0 where
  f := 182
  res l H n := match l with | [.int .i64 t] => partsGo t H n partsTab | _ => .bad "arguments" []
  ok l H n := by
    split
    · rename_i t
      have := parts_ok t H n
      generalize partsGo t H n partsTab = r at this ⊢
      cases r <;> first | exact this | trivial
    · trivial
  ck l H n K := match l with | [.int .i64 t] => partsK t H n K partsTab | _ => False
  imp l H n K h := by
    split at h
    · exact partsK_imp h
    · exact h.elim
end Go.Proofs.YtjbcamcegnjnaaaGreat
/- DERIVED. Data: the name in front. -/
namespace Go.Proofs.YtjbcamcegnjnaaaGreat
open Go Go.RowKit

/-- Where the first name of some bytes has its last 0. -/
def zposF : Nat → Bs → Option Nat
  | 0, _ => none
  | _ + 1, [] => none
  | n + 1, c :: r => if c.toNat = 0 then some 0 else (zposF n (r.drop c.toNat)).map (· + (c.toNat + 1))
theorem zposF_eq : ∀ (n m : Nat) (l : Bs), l.length < n → l.length < m → zposF n l = zposF m l
  | n + 1, m + 1, [], _, _ => rfl
  | n + 1, m + 1, c :: r, h1, h2 => by
    simp only [zposF]
    rw [zposF_eq n m (r.drop c.toNat) (by simp at h1 ⊢; omega) (by simp at h2 ⊢; omega)]
def zpos (l : Bs) : Option Nat := zposF (l.length + 1) l
theorem zpos_nil : zpos [] = none := rfl
theorem zpos_cons (c : UInt8) (r : Bs) : zpos (c :: r) = if c.toNat = 0 then some 0 else (zpos (r.drop c.toNat)).map (· + (c.toNat + 1)) := by
  unfold zpos
  simp only [zposF, List.length_cons]
  rw [zposF_eq (r.length + 1) ((r.drop c.toNat).length + 1) _ (by simp; omega) (by omega)]
theorem zpos_at (l : Bs) (i : Nat) (h : i < l.length) : zpos (l.drop i) = if l[i].toNat = 0 then some 0 else (zpos (l.drop (i + 1 + l[i].toNat))).map (· + (l[i].toNat + 1)) := by
  rw [List.drop_eq_getElem_cons h, zpos_cons, List.drop_drop]
theorem zpos_lt : ∀ (n : Nat) (l : Bs) (k : Nat), l.length ≤ n → zpos l = some k → k < l.length
  | 0, l, k, hn, h => by
    have : l = [] := List.length_eq_zero_iff.1 (by omega)
    subst this; cases h
  | n + 1, [], k, _, h => by cases h
  | n + 1, c :: r, k, hn, h => by
    rw [zpos_cons] at h
    split at h
    · cases h; simp
    · obtain ⟨j, hj, rfl⟩ := Option.map_eq_some_iff.1 h
      have := zpos_lt n (r.drop c.toNat) j (by simp at hn ⊢; omega) hj
      simp at this ⊢; omega
theorem labels_len {l : Bs} (h : (labels l).2 = 0) : l.length ≤ 255 := by
  unfold labels at h
  split at h
  · cases h
  · split at h
    · cases h
    · omega
/-- How long the name is that some bytes begin with. -/
def front (l : Bs) : Option Nat := match zpos l with | some k => if (labels (l.take (k + 1))).2 = 0 then some (k + 1) else none | none => none

def unfitV : Value := .iface 331 (.agg #[])
noncomputable def tbD3 : Tb Tryz.prog 0 := tbOf mixed [ct_check]
def fullB (s : ByteArray) : Bs := bs s

set_option maxRecDepth 100000 in
theorem first_fn (s : ByteArray) (hs : (bs s).length ≤ 1000000000) : ∃ r, FnS Tryz.prog 0 197 [.string s] .e 0 r ∧ ∃ H m wr, (∃ k, front (bs s) = some k ∧ r = .ret (.string (subS s 0 k)) H m wr) ∨ (front (bs s) = none ∧ r = .pan [(unfitV, false)] H m wr) := by
  refine fn_sx mixed tbD3 [] Tryz.func197 (c := bodyOf Tryz.f197) (by kernel_rfl) ?_
  refine loop_go (fun i f => ⟨slots 6 [(0, .string s), (3, .int .i64 (i : Nat))] f, heap 0 [], 0, [], []⟩) (fun i => (bs s).length + 300 - i) (fun i => i ≤ (bs s).length + 256 ∧ zpos (bs s) = (zpos ((bs s).drop i)).map (· + i)) 0 ⟨Nat.zero_le _, by simp⟩
    (rc_slots [] rfl rfl rfl (fun l e => by cases e) List.nodup_nil (fun x hx => by cases hx) rfl rfl (fun k hk _ => hk) ⟨⟨_, rfl, .string _⟩, ⟨_, rfl, .int _ _⟩, trivial⟩ trivial .nil) ?_
  rintro i f ⟨hi, heq⟩
  refine sx_ok tbD3 [] 0 _ none mixed _ _ _ ?_
  refine ifK (fun h1 => ?_) (fun h1 => ?_)
  · have h1 : i < (bs s).length := by have := of_decide_eq_true h1; rw [bs_size] at this; omega
    have hb := byte_lt (bs s)[i]
    have hat := atS_get s i h1
    have hstep := zpos_at (bs s) i h1
    refine ifK (fun h2 => ?_) (fun h2 => ?_)
    · have h2 := of_decide_eq_true h2
      refine And.intro (by simp only [inI, bs_size]; simp; omega) ?_
      refine ifK (fun h3 => ?_) (fun h3 => ?_)
      · have h3 : (bs s)[i].toNat = 0 := by rw [hat] at h3; simpa using h3
        rw [if_pos h3] at hstep
        rw [hstep] at heq
        have hz : zpos (bs s) = some i := by rw [heq]; simp
        have e1 : IntKind.i64.wrap ((i : Int) + 1) = ((i + 1 : Nat) : Int) := by rw [wrapN (by omega) (by omega)]; omega
        have e2 : (IntKind.i64.wrap ((i : Int) + 1)).toNat = i + 1 := by rw [e1]; rfl
        refine And.intro (by rw [e1]; simp only [inLH, bs_size]; simp; omega) ?_
        have hsub : bs (subS s (Int.toNat 0) (IntKind.i64.wrap ((i : Int) + 1)).toNat) = (bs s).take (i + 1) := by rw [bs_sub, e2]; simp
        refine And.intro (by unfold shortB; rw [bs_size, hsub]; simp; omega) ?_
        refine ifK (fun h4 => ?_) (fun h4 => ?_)
        · have h4 : (labels ((bs s).take (i + 1))).2 = 0 := by rw [hsub] at h4; simpa using h4
          have hf : front (bs s) = some (i + 1) := by unfold front; rw [hz]; simp [h4]
          exact ⟨_, _, _, .inl ⟨i + 1, hf, by rw [← e2]; rfl⟩⟩
        · have h4 : ¬ (labels ((bs s).take (i + 1))).2 = 0 := by rw [hsub] at h4; simpa using h4
          have hf : front (bs s) = none := by unfold front; rw [hz]; simp [h4]
          exact ⟨_, _, _, .inr ⟨hf, rfl⟩⟩
      · have h3 : (bs s)[i].toNat ≠ 0 := by rw [hat] at h3; simpa using h3
        rw [if_neg h3] at hstep
        have e1 : IntKind.i64.wrap ((i : Int) + IntKind.i64.wrap (1 + IntKind.i64.wrap ((atS s (i : Int)).toNat : Int))) = ((i + 1 + (bs s)[i].toNat : Nat) : Int) := by
          rw [hat, wrapN (x := (((bs s)[i]).toNat : Int)) (by omega) (by omega), wrapN (x := 1 + (((bs s)[i]).toNat : Int)) (by omega) (by omega), wrapN (by omega) (by omega)]; omega
        refine And.intro (by simp only [inI, bs_size]; simp; omega) ?_
        refine ⟨i + 1 + (bs s)[i].toNat, ⟨by omega, ?_⟩, by omega, rc_slots [] rfl rfl rfl (fun l e => by cases e) List.nodup_nil (fun x hx => by cases hx) rfl rfl (fun k hk _ => hk) ⟨⟨_, rfl, .string _⟩, slot_int rfl e1, trivial⟩ trivial .nil⟩
        rw [heq, hstep, Option.map_map]
        congr 1
        funext j; simp; omega
    · have h2 : ¬ i < 255 := by have := of_decide_eq_false h2; omega
      have hf : front (bs s) = none := by
        unfold front
        rw [heq]
        cases hz : zpos ((bs s).drop i) with
        | none => rfl
        | some j =>
          simp only [Option.map_some]
          rw [if_neg]
          intro hl
          have h5 := labels_len hl
          have h6 := zpos_lt _ _ _ (Nat.le_refl _) hz
          simp at h5 h6; omega
      exact ⟨_, _, _, .inr ⟨hf, rfl⟩⟩
  · have h1 : ¬ i < (bs s).length := by have := of_decide_eq_false h1; rw [bs_size] at this; omega
    have hf : front (bs s) = none := by
      unfold front
      rw [heq, List.drop_eq_nil_of_le (by omega), zpos_nil]; rfl
    exact ⟨_, _, _, .inr ⟨hf, rfl⟩⟩
end Go.Proofs.YtjbcamcegnjnaaaGreat
/- DERIVED. Data: contracts of texts and names in front. -/
namespace Go.Proofs.YtjbcamcegnjnaaaGreat
open Go Go.RowKit

/-- A function of a string that was walked. -/
def Ct.strF (f : FuncId) (out : ByteArray → Value) (hp : ∀ s, plainV 8 (out s) = true) (ok : ∀ s, (bs s).length ≤ 1000000000 → ∃ H m wr, FnS Tryz.prog 0 f [.string s] .e 0 (.ret (out s) H m wr)) : Ct Tryz.prog 0 where
  f := f
  res l H n := match l with | [.string s] => bif shortB s then .ret (out s) H n [] else .bad "long" [] | _ => .bad "arguments" []
  ok l H n := by
    split
    · rename_i s
      cases hs : shortB s with
      | false => trivial
      | true => obtain ⟨_, _, _, h⟩ := ok s (short_len hs); exact callOK_pure h rfl (hp s) H n
    · trivial
  ck l H n K := match l with | [.string s] => shortB s = true ∧ K (.ret (out s) H n []) | _ => False
  imp l H n K h := by
    split at h
    · obtain ⟨h1, h2⟩ := h
      simp only [h1, cond_true]; exact h2
    · exact h.elim

def ct_texts : Ct Tryz.prog 0 := Ct.strF 196 (fun s => .bool (texts (bs s))) (fun _ => rfl) (fun s hs => by
  obtain ⟨r, h, H, m, wr, rfl⟩ := texts_fn s hs
  exact ⟨H, m, wr, h⟩)

/-- How long the name in front is, or 0. -/
def frontN (l : Bs) : Nat := (front l).getD 0
def ct_first : Ct Tryz.prog 0 where
  f := 197
  res l H n := match l with | [.string s] => bif shortB s then (bif (front (bs s)).isSome then .ret (.string (subS s 0 (frontN (bs s)))) H n [] else .pan [(unfitV, false)] H n []) else .bad "long" [] | _ => .bad "arguments" []
  ok l H n := by
    split
    · rename_i s
      cases hs : shortB s with
      | false => trivial
      | true =>
        obtain ⟨r, h, H', m, wr, ⟨k, hf, rfl⟩ | ⟨hf, rfl⟩⟩ := first_fn s (short_len hs)
        · simp only [hf, Option.isSome_some, cond_true]
          have : frontN (bs s) = k := by simp [frontN, hf]
          rw [this]
          exact callOK_pure h rfl rfl H n
        · simp only [hf, Option.isSome_none, cond_true, cond_false]
          exact callOK_purepan h rfl rfl H n
    · trivial
  ck l H n K := match l with | [.string s] => shortB s = true ∧ brK (front (bs s)).isSome (K (.ret (.string (subS s 0 (frontN (bs s)))) H n [])) (K (.pan [(unfitV, false)] H n [])) | _ => False
  imp l H n K h := by
    split at h
    · rename_i s
      obtain ⟨h1, h2⟩ := h
      simp only [h1, cond_true]
      cases hf : (front (bs s)).isSome with
      | true => rw [hf] at h2; exact h2
      | false => rw [hf] at h2; exact h2
    · exact h.elim
end Go.Proofs.YtjbcamcegnjnaaaGreat
/- DERIVED. Data: split. -/
namespace Go.Proofs.YtjbcamcegnjnaaaGreat
open Go Go.RowKit

/-- A part of a type's data: a name; texts up to the end; so many bytes. -/
inductive Pt where
  | nm
  | rest
  | sz (k : Nat)
def Pt.cell : Pt → List Value
  | .nm => part 0 true false
  | .rest => part 0 false true
  | .sz k => part k false false
def Pt.isName : Pt → Bool
  | .nm => true
  | _ => false
theorem Pt.cell_len (p : Pt) : p.cell.length = 3 := by cases p <;> rfl
theorem Pt.cell_plain (p : Pt) : plainL p.cell = true := by cases p <;> rfl
def pc (p : Bs × Bool) : List Value := [str p.1, .bool p.2]
theorem pc_len (p : Bs × Bool) : (pc p).length = 2 := rfl
theorem pc_plain (p : Bs × Bool) : plainL (pc p) = true := rfl
/-- How many bytes stand in a part. -/
def Pt.cut (p : Pt) (l : Bs) : Option Nat :=
  match p with
  | .nm => front l
  | .rest => if texts l then some l.length else none
  | .sz k => if k ≤ l.length then some k else none
def cuts : List Pt → Bs → Option (List (Bs × Bool) × Bs)
  | [], l => some ([], l)
  | p :: ps, l => match p.cut l with
    | none => none
    | some n => (cuts ps (l.drop n)).map fun x => ((l.take n, p.isName) :: x.1, x.2)
theorem front_le {l : Bs} {k : Nat} (h : front l = some k) : k ≤ l.length := by
  unfold front at h
  split at h
  · rename_i j hj
    have := zpos_lt _ _ _ (Nat.le_refl _) hj
    split at h
    · cases h; omega
    · cases h
  · cases h
theorem cut_le {p : Pt} {l : Bs} {k : Nat} (h : p.cut l = some k) : k ≤ l.length := by
  cases p with
  | nm => exact front_le h
  | rest => simp only [Pt.cut] at h; split at h <;> simp at h; omega
  | sz k' => simp only [Pt.cut] at h; split at h <;> simp at h; omega

noncomputable def tbD5 : Tb Tryz.prog 0 := tbOf mixed [ct_parts, ct_texts, ct_first]

/-- At the head of split's loop. -/
def spS (ps : List Pt) (x : Nat × List (Bs × Bool) × ByteArray) (f : Nat → Option Value) : Fs :=
  match x with
  | (i, acc, s) =>
    match acc with
    | [] => ⟨slots 7 [(1, .string s), (4, .pointer (some ⟨0, 0, none⟩)), (5, .pointer (some ⟨1, 0, none⟩)), (22, .slice (some ⟨2, 0, none⟩) ps.length ps.length), (23, .int .i64 ps.length), (24, .int .i64 i)] f,
        heap 3 [(0, .cells [.slice none 0 0] 297), (1, .cells [.bool false] 4), (2, .cells (ps.flatMap Pt.cell) 316)], 3, [], [.call 195 [.pointer (some ⟨0, 0, none⟩), .pointer (some ⟨1, 0, none⟩)] []]⟩
    | a :: l => ⟨slots 7 [(1, .string s), (4, .pointer (some ⟨0, 0, none⟩)), (5, .pointer (some ⟨1, 0, none⟩)), (22, .slice (some ⟨2, 0, none⟩) ps.length ps.length), (23, .int .i64 ps.length), (24, .int .i64 i)] f,
        heap 3 [(0, .cells [.slice (some ⟨3, 0, none⟩) (l.length + 1) U] 297), (1, .cells [.bool false] 4), (2, .cells (ps.flatMap Pt.cell) 316), (3, .cells ((a :: l).flatMap pc) 301)], 4, [], [.call 195 [.pointer (some ⟨0, 0, none⟩), .pointer (some ⟨1, 0, none⟩)] []]⟩
end Go.Proofs.YtjbcamcegnjnaaaGreat
/- DERIVED. Data: how split ends, its deferred call included. -/
namespace Go.Proofs.YtjbcamcegnjnaaaGreat
open Go Go.RowKit

noncomputable def endS (tb : Tb Tryz.prog 0) (x : Ex) (s : Fs) : Res :=
  match modeOf x with
  | some u => (match evOut Tryz.prog tb.go s.df u s.H s.n s.wr with
    | .ok none H n wr => (match evResults Tryz.prog { s with H } Tryz.f172.results.toList with | some vs => .ret (tupleOf vs) H n wr | none => .bad "" [])
    | _ => .bad "" [])
  | none => .bad "" []
def hOf (r : Res) : Tr AObj := match r with | .ret _ H _ _ => H | _ => .e
def nOf (r : Res) : Nat := match r with | .ret _ _ n _ => n | _ => 0
def wOf (r : Res) : List Nat := match r with | .ret _ _ _ wr => wr | _ => []

noncomputable def sEnd0 (f2 : Nat → Option Value) : Fs := ⟨slots 7 [(4, .pointer (some ⟨0, 0, none⟩)), (5, .pointer (some ⟨1, 0, none⟩))] f2, heap 2 [(0, .cells [.slice none 0 0] 297), (1, .cells [.bool false] 4)], 2, [], [.call 195 [.pointer (some ⟨0, 0, none⟩), .pointer (some ⟨1, 0, none⟩)] []]⟩
theorem end_pan0 (tb : Tb Tryz.prog 0) (R : Res → Prop) (f2 : Nat → Option Value) : fnK tb Tryz.f172 R (.pan [(unfitV, false)]) (sEnd0 f2) = R (.ret (.tuple #[.slice none 0 0, .bool false]) (hOf (endS tb (.pan [(unfitV, false)]) (sEnd0 f2))) (nOf (endS tb (.pan [(unfitV, false)]) (sEnd0 f2))) (wOf (endS tb (.pan [(unfitV, false)]) (sEnd0 f2)))) := by kernel_rfl

noncomputable def sEnd1 (k : Nat) (f2 : Nat → Option Value) : Fs := ⟨slots 7 [(4, .pointer (some ⟨0, 0, none⟩)), (5, .pointer (some ⟨1, 0, none⟩))] f2, heap 2 [(0, .cells [.slice (some ⟨2, 0, none⟩) (k + 1) U] 297), (1, .cells [.bool false] 4)], 3, [], [.call 195 [.pointer (some ⟨0, 0, none⟩), .pointer (some ⟨1, 0, none⟩)] []]⟩
theorem end_pan1 (tb : Tb Tryz.prog 0) (R : Res → Prop) (k : Nat) (f2 : Nat → Option Value) : fnK tb Tryz.f172 R (.pan [(unfitV, false)]) (sEnd1 k f2) = R (.ret (.tuple #[.slice none 0 0, .bool false]) (hOf (endS tb (.pan [(unfitV, false)]) (sEnd1 k f2))) (nOf (endS tb (.pan [(unfitV, false)]) (sEnd1 k f2))) (wOf (endS tb (.pan [(unfitV, false)]) (sEnd1 k f2)))) := by kernel_rfl

noncomputable def sEnd2 (k : Nat) (b : Bool) (c : List Value) (f2 : Nat → Option Value) : Fs := ⟨slots 7 [(4, .pointer (some ⟨0, 0, none⟩)), (5, .pointer (some ⟨1, 0, none⟩))] f2, heap 2 [(0, .cells [.slice (some ⟨2, 0, none⟩) (k + 1) U] 297), (1, .cells [.bool b] 4), (2, .cells c 301)], 3, [], [.call 195 [.pointer (some ⟨0, 0, none⟩), .pointer (some ⟨1, 0, none⟩)] []]⟩
theorem end_ret (tb : Tb Tryz.prog 0) (R : Res → Prop) (k : Nat) (b : Bool) (c : List Value) (f2 : Nat → Option Value) : fnK tb Tryz.f172 R .ret (sEnd2 k b c f2) = R (.ret (.tuple #[.slice (some ⟨2, 0, none⟩) (k + 1) U, .bool b]) (hOf (endS tb .ret (sEnd2 k b c f2))) (nOf (endS tb .ret (sEnd2 k b c f2))) (wOf (endS tb .ret (sEnd2 k b c f2)))) := by kernel_rfl
theorem end_ret_get (tb : Tb Tryz.prog 0) (k : Nat) (b : Bool) (c : List Value) (f2 : Nat → Option Value) : (hOf (endS tb .ret (sEnd2 k b c f2))).get 2 = some (.cells c 301) := by kernel_rfl
end Go.Proofs.YtjbcamcegnjnaaaGreat
/- DERIVED. Data: split, walked. -/
namespace Go.Proofs.YtjbcamcegnjnaaaGreat
open Go Go.RowKit

/-- The parts of one type, as a contract. -/
def ct_partsAt (t : Int) (ps : List Pt) (h : ∀ H n, partsGo t H n partsTab = partsOut ps.length (ps.flatMap Pt.cell) H n) : Ct Tryz.prog 0 where
  f := 182
  res l H n := match l with | [.int .i64 t'] => bif t' == t then partsOut ps.length (ps.flatMap Pt.cell) H n else .bad "type" [] | _ => .bad "arguments" []
  ok l H n := by
    split
    · rename_i t'
      cases hb : (t' == t) with
      | false => trivial
      | true =>
        have hb : t' = t := by simpa using hb
        subst hb
        have := parts_ok t' H n
        rw [h] at this
        exact this
    · trivial
  ck l H n K := match l with | [.int .i64 t'] => (t' == t) = true ∧ K (partsOut ps.length (ps.flatMap Pt.cell) H n) | _ => False
  imp l H n K h := by
    split at h
    · obtain ⟨h1, h2⟩ := h
      simp only [h1, cond_true]; exact h2
    · exact h.elim

theorem sub_take (s : ByteArray) (x : Int) (k : Nat) (h : x = k) : Value.string (subS s (Int.toNat 0) x.toNat) = str ((bs s).take k) := by
  subst h
  show _ = Value.string ⟨((bs s).take k).toArray⟩
  congr 1
theorem sub_rest (s : ByteArray) (x : Int) (k : Nat) (h : x = k) : bs (subS s x.toNat ((s.data.size : Int)).toNat) = (bs s).drop k := by
  subst h
  rw [bs_sub, Int.toNat_natCast, Int.toNat_natCast, bs_size, List.take_length]
theorem cuts_step (ps : List Pt) (i : Nat) (h : i < ps.length) (l : Bs) : cuts (ps.drop i) l = match ps[i].cut l with
    | none => none
    | some n => (cuts (ps.drop (i + 1)) (l.drop n)).map fun x => ((l.take n, ps[i].isName) :: x.1, x.2) := by
  rw [List.drop_eq_getElem_cons h]; rfl

set_option maxRecDepth 1000000 in
set_option maxHeartbeats 4000000 in
theorem split_fn (t : Int) (ps : List Pt) (hps : 0 < ps.length) (hps2 : ps.length < 1000) (ht : ∀ H n, partsGo t H n partsTab = partsOut ps.length (ps.flatMap Pt.cell) H n) (s0 : ByteArray) (hs0 : (bs s0).length ≤ 1000000000) :
    ∃ r, FnS Tryz.prog 0 172 [.int .i64 t, .string s0] .e 0 r ∧ ∃ H m wr,
      (∃ out rest b, cuts ps (bs s0) = some (out, rest) ∧ r = .ret (.tuple #[.slice (some ⟨b, 0, none⟩) out.length U, .bool rest.isEmpty]) H m wr ∧ H.get b = some (.cells (out.flatMap pc) 301) ∧ b < JJ) ∨
      (cuts ps (bs s0) = none ∧ r = .ret (.tuple #[.slice none 0 0, .bool false]) H m wr) := by
  refine fn_sxR mixed (tbOf mixed [ct_partsAt t ps ht, ct_texts, ct_first]) [2, 3] Tryz.func172 (c := bodyOf Tryz.f172) (by kernel_rfl) ?_
  refine And.intro (by simp) ?_
  refine loop_go (spS ps) (fun x => ps.length - x.1) (fun x => x.1 ≤ ps.length ∧ (bs x.2.2).length ≤ 1000000000 ∧ x.2.1.length = x.1 ∧ cuts ps (bs s0) = (cuts (ps.drop x.1) (bs x.2.2)).map fun y => (x.2.1 ++ y.1, y.2)) (0, [], s0) ⟨Nat.zero_le _, hs0, rfl, by simp⟩
    (rc_slots [0, 1, 2] rfl rfl rfl (fun l e => by cases e) (by decide) (by decide) rfl rfl (fun k hk h => by omega) ⟨⟨_, rfl, .string _⟩, ⟨_, rfl, .ptr _ _ _ rfl⟩, ⟨_, rfl, .ptr _ _ _ rfl⟩, ⟨_, rfl, .sl _ _ _ _ _ rfl⟩, ⟨_, rfl, .int _ _⟩, ⟨_, rfl, .int _ _⟩, trivial⟩
      ⟨⟨by decide, _, rfl, .same rfl⟩, ⟨by decide, _, rfl, .same rfl⟩, ⟨by decide, _, rfl, .same (flat_plain _ Pt.cell_plain ps)⟩, trivial⟩ (.fn _ _ _ _ _ _ _ (.cons _ _ _ _ (.ptr _ _ _ rfl) (.cons _ _ _ _ (.ptr _ _ _ rfl) .nil)) .nil .nil)) ?_
  rintro ⟨i, acc, s⟩ f ⟨hi, hs, hacc, heq⟩
  have hi : i ≤ ps.length := hi
  have hs : (bs s).length ≤ 1000000000 := hs
  have hacc : acc.length = i := hacc
  have heq : cuts ps (bs s0) = (cuts (ps.drop i) (bs s)).map fun y => (acc ++ y.1, y.2) := heq
  have hsB : shortB s = true := by unfold shortB; rw [bs_size]; exact Nat.ble_eq_true_of_le hs
  have side : ∀ (h1 : i < ps.length), (0 + ((i : Nat) : Int).toNat * 3 + 3 ≤ (ps.flatMap Pt.cell).length ∧ List.take 3 (List.drop (0 + ((i : Nat) : Int).toNat * 3) (ps.flatMap Pt.cell)) = ps[i].cell) := fun h1 => by
    have := flat_at Pt.cell 3 Pt.cell_len ps i h1
    rw [Int.toNat_natCast, Nat.zero_add]; exact this
  cases acc with
  | nil =>
    refine sx_ok (tbOf mixed [ct_partsAt t ps ht, ct_texts, ct_first]) [2] 0 _ none mixed _ _ _ ?_
    refine ifK (fun h1 => ?_) (fun h1 => ?_)
    · have h1 : i < ps.length := by have := of_decide_eq_true h1; omega
      have hst := cuts_step ps i h1 (bs s)
      have hsd := side h1
      refine ifK (fun _ => ?_) (fun h2 => absurd h2 (by simp [inI]; omega))
      cases hp : ps[i] with
      | nm =>
        rw [hp] at hst hsd
        refine Exists.intro 0 (Exists.intro true (Exists.intro false (And.intro hsd ?_)))
        refine And.intro hsB ?_
        refine ifK (fun h3 => ?_) (fun h3 => ?_)
        · obtain ⟨k, hk⟩ := Option.isSome_iff_exists.1 h3
          have hcut : Pt.nm.cut (bs s) = some k := hk
          have hkn : frontN (bs s) = k := by simp [frontN, hk]
          have hkl := front_le hk
          have hx : ((subS s 0 (frontN (bs s))).data.size : Int) = (k : Nat) := by rw [bs_size, bs_sub, hkn]; simp; omega
          refine And.intro (by kernel_rfl) ?_
          refine And.intro (by rw [hx]; simp only [inLH, bs_size, Bool.and_eq_true, decide_eq_true_eq] <;> omega) ?_
          refine And.intro (by rw [hx]; simp only [inLH, bs_size, Bool.and_eq_true, decide_eq_true_eq] <;> omega) ?_
          refine ⟨(i + 1, [] ++ [((bs s).take (k), true)], subS s (((subS s 0 (frontN (bs s))).data.size : Int)).toNat ((s.data.size : Int)).toNat), ⟨h1, ?_, ?_, ?_⟩, ?_, ?_⟩
          · show (bs (subS s _ _)).length ≤ _; rw [sub_rest s _ _ hx]; simp <;> omega
          · simp only [List.length_append, hacc]; rfl
          · show cuts ps (bs s0) = (cuts (ps.drop (i + 1)) (bs (subS s _ _))).map _; rw [sub_rest s _ _ hx, heq, hst, hcut]; simp only [Option.map_map]; exact congrArg (fun g => Option.map g _) (funext fun y => by simp [Pt.isName])
          · show ps.length - (i + 1) < ps.length - i; omega
          · refine rc_slots [0, 1, 2, 5] rfl rfl rfl (fun l e => by cases e) (by decide) (by decide) rfl rfl (fun k hk h => by omega) ⟨⟨_, rfl, .string _⟩, ⟨_, rfl, .ptr _ _ _ rfl⟩, ⟨_, rfl, .ptr _ _ _ rfl⟩, ⟨_, rfl, .sl _ _ _ _ _ rfl⟩, ⟨_, rfl, .int _ _⟩, slot_int rfl (by rw [wrapN (by omega) (by omega)]; omega), trivial⟩ ⟨⟨by decide, _, rfl, ?_⟩, ⟨by decide, _, rfl, .same rfl⟩, ⟨by decide, _, rfl, .same (flat_plain _ Pt.cell_plain ps)⟩, ⟨by decide, _, rfl, ?_⟩, trivial⟩ (.fn _ _ _ _ _ _ _ (.cons _ _ _ _ (.ptr _ _ _ rfl) (.cons _ _ _ _ (.ptr _ _ _ rfl) .nil)) .nil .nil)
            · exact ro_slice rfl
            · refine ro_eq ?_ (flat_plain pc pc_plain _)
              show [Value.string (subS s (Int.toNat 0) (((subS s 0 (frontN (bs s))).data.size : Int)).toNat), .bool true] = _
              rw [sub_take s _ _ hx]; rfl
        · have hcut : Pt.nm.cut (bs s) = none := by have : (front (bs s)).isSome = false := h3; simpa [Pt.cut] using this
          have hn : cuts ps (bs s0) = none := by rw [heq, hst, hcut]; rfl
          refine And.intro rfl (rc_end (rc_slots [0, 1] (d := 7) (d2 := 2) (lv := [(4, .pointer (some ⟨0, 0, none⟩)), (5, .pointer (some ⟨1, 0, none⟩))]) (bs := [(0, .cells [.slice none 0 0] 297), (1, .cells [.bool false] 4)]) (W := []) (m := 2) (df := [.call 195 [.pointer (some ⟨0, 0, none⟩), .pointer (some ⟨1, 0, none⟩)] []]) rfl rfl rfl (fun l e => by cases e) (by decide) (by decide) rfl rfl (fun k hk h => by omega) ⟨⟨_, rfl, .ptr _ _ _ rfl⟩, ⟨_, rfl, .ptr _ _ _ rfl⟩, trivial⟩ ⟨⟨by decide, _, rfl, .same rfl⟩, ⟨by decide, _, rfl, .same rfl⟩, trivial⟩ (.fn _ _ _ _ _ _ _ (.cons _ _ _ _ (.ptr _ _ _ rfl) (.cons _ _ _ _ (.ptr _ _ _ rfl) .nil)) .nil .nil)) (fun f2 => ?_))
          refine Eq.mpr (end_pan0 _ _ f2) ?_
          exact Exists.intro _ (Exists.intro _ (Exists.intro _ (Or.inr (And.intro hn rfl))))
      | rest =>
        rw [hp] at hst hsd
        refine Exists.intro 0 (Exists.intro false (Exists.intro true (And.intro hsd ?_)))
        refine And.intro hsB ?_
        refine ifK (fun h3 => ?_) (fun h3 => ?_)
        · have hcut : Pt.rest.cut (bs s) = some (bs s).length := by have h3 : texts (bs s) = true := h3; simp [Pt.cut, h3]
          have hx : (s.data.size : Int) = ((bs s).length : Nat) := by rw [bs_size]
          refine And.intro (by kernel_rfl) ?_
          refine And.intro (by rw [hx]; simp only [inLH, bs_size, Bool.and_eq_true, decide_eq_true_eq] <;> omega) ?_
          refine And.intro (by rw [hx]; simp only [inLH, bs_size, Bool.and_eq_true, decide_eq_true_eq] <;> omega) ?_
          refine ⟨(i + 1, [] ++ [((bs s).take ((bs s).length), false)], subS s ((s.data.size : Int)).toNat ((s.data.size : Int)).toNat), ⟨h1, ?_, ?_, ?_⟩, ?_, ?_⟩
          · show (bs (subS s _ _)).length ≤ _; rw [sub_rest s _ _ hx]; simp <;> omega
          · simp only [List.length_append, hacc]; rfl
          · show cuts ps (bs s0) = (cuts (ps.drop (i + 1)) (bs (subS s _ _))).map _; rw [sub_rest s _ _ hx, heq, hst, hcut]; simp only [Option.map_map]; exact congrArg (fun g => Option.map g _) (funext fun y => by simp [Pt.isName])
          · show ps.length - (i + 1) < ps.length - i; omega
          · refine rc_slots [0, 1, 2, 5] rfl rfl rfl (fun l e => by cases e) (by decide) (by decide) rfl rfl (fun k hk h => by omega) ⟨⟨_, rfl, .string _⟩, ⟨_, rfl, .ptr _ _ _ rfl⟩, ⟨_, rfl, .ptr _ _ _ rfl⟩, ⟨_, rfl, .sl _ _ _ _ _ rfl⟩, ⟨_, rfl, .int _ _⟩, slot_int rfl (by rw [wrapN (by omega) (by omega)]; omega), trivial⟩ ⟨⟨by decide, _, rfl, ?_⟩, ⟨by decide, _, rfl, .same rfl⟩, ⟨by decide, _, rfl, .same (flat_plain _ Pt.cell_plain ps)⟩, ⟨by decide, _, rfl, ?_⟩, trivial⟩ (.fn _ _ _ _ _ _ _ (.cons _ _ _ _ (.ptr _ _ _ rfl) (.cons _ _ _ _ (.ptr _ _ _ rfl) .nil)) .nil .nil)
            · exact ro_slice rfl
            · refine ro_eq ?_ (flat_plain pc pc_plain _)
              show [Value.string (subS s (Int.toNat 0) ((s.data.size : Int)).toNat), .bool false] = _
              rw [sub_take s _ _ hx]; rfl
        · have hcut : Pt.rest.cut (bs s) = none := by have h3 : texts (bs s) = false := h3; simp [Pt.cut, h3]
          have hn : cuts ps (bs s0) = none := by rw [heq, hst, hcut]; rfl
          refine And.intro rfl (rc_end (rc_slots [0, 1] (d := 7) (d2 := 2) (lv := [(4, .pointer (some ⟨0, 0, none⟩)), (5, .pointer (some ⟨1, 0, none⟩))]) (bs := [(0, .cells [.slice none 0 0] 297), (1, .cells [.bool false] 4)]) (W := []) (m := 2) (df := [.call 195 [.pointer (some ⟨0, 0, none⟩), .pointer (some ⟨1, 0, none⟩)] []]) rfl rfl rfl (fun l e => by cases e) (by decide) (by decide) rfl rfl (fun k hk h => by omega) ⟨⟨_, rfl, .ptr _ _ _ rfl⟩, ⟨_, rfl, .ptr _ _ _ rfl⟩, trivial⟩ ⟨⟨by decide, _, rfl, .same rfl⟩, ⟨by decide, _, rfl, .same rfl⟩, trivial⟩ (.fn _ _ _ _ _ _ _ (.cons _ _ _ _ (.ptr _ _ _ rfl) (.cons _ _ _ _ (.ptr _ _ _ rfl) .nil)) .nil .nil)) (fun f2 => ?_))
          refine Eq.mpr (end_pan0 _ _ f2) ?_
          exact Exists.intro _ (Exists.intro _ (Exists.intro _ (Or.inr (And.intro hn rfl))))
      | sz k =>
        rw [hp] at hst hsd
        refine Exists.intro (k : Int) (Exists.intro false (Exists.intro false (And.intro hsd ?_)))
        refine ifK (fun h3 => ?_) (fun h3 => ?_)
        · have h3 : ¬ k ≤ (bs s).length := by have := of_decide_eq_true h3; rw [bs_size] at this; omega
          have hcut : (Pt.sz k).cut (bs s) = none := by simp [Pt.cut, h3]
          have hn : cuts ps (bs s0) = none := by rw [heq, hst, hcut]; rfl
          refine And.intro rfl (rc_end (rc_slots [0, 1] (d := 7) (d2 := 2) (lv := [(4, .pointer (some ⟨0, 0, none⟩)), (5, .pointer (some ⟨1, 0, none⟩))]) (bs := [(0, .cells [.slice none 0 0] 297), (1, .cells [.bool false] 4)]) (W := []) (m := 2) (df := [.call 195 [.pointer (some ⟨0, 0, none⟩), .pointer (some ⟨1, 0, none⟩)] []]) rfl rfl rfl (fun l e => by cases e) (by decide) (by decide) rfl rfl (fun k hk h => by omega) ⟨⟨_, rfl, .ptr _ _ _ rfl⟩, ⟨_, rfl, .ptr _ _ _ rfl⟩, trivial⟩ ⟨⟨by decide, _, rfl, .same rfl⟩, ⟨by decide, _, rfl, .same rfl⟩, trivial⟩ (.fn _ _ _ _ _ _ _ (.cons _ _ _ _ (.ptr _ _ _ rfl) (.cons _ _ _ _ (.ptr _ _ _ rfl) .nil)) .nil .nil)) (fun f2 => ?_))
          refine Eq.mpr (end_pan0 _ _ f2) ?_
          exact Exists.intro _ (Exists.intro _ (Exists.intro _ (Or.inr (And.intro hn rfl))))
        · have h3 : k ≤ (bs s).length := by have := of_decide_eq_false h3; rw [bs_size] at this; omega
          have hcut : (Pt.sz k).cut (bs s) = some k := by simp [Pt.cut, h3]
          have hx : (k : Int) = (k : Nat) := rfl
          refine And.intro (by kernel_rfl) ?_
          refine And.intro (by rw [hx]; simp only [inLH, bs_size, Bool.and_eq_true, decide_eq_true_eq] <;> omega) ?_
          refine And.intro (by rw [hx]; simp only [inLH, bs_size, Bool.and_eq_true, decide_eq_true_eq] <;> omega) ?_
          refine ⟨(i + 1, [] ++ [((bs s).take (k), false)], subS s ((k : Int)).toNat ((s.data.size : Int)).toNat), ⟨h1, ?_, ?_, ?_⟩, ?_, ?_⟩
          · show (bs (subS s _ _)).length ≤ _; rw [sub_rest s _ _ hx]; simp <;> omega
          · simp only [List.length_append, hacc]; rfl
          · show cuts ps (bs s0) = (cuts (ps.drop (i + 1)) (bs (subS s _ _))).map _; rw [sub_rest s _ _ hx, heq, hst, hcut]; simp only [Option.map_map]; exact congrArg (fun g => Option.map g _) (funext fun y => by simp [Pt.isName])
          · show ps.length - (i + 1) < ps.length - i; omega
          · refine rc_slots [0, 1, 2, 5] rfl rfl rfl (fun l e => by cases e) (by decide) (by decide) rfl rfl (fun k hk h => by omega) ⟨⟨_, rfl, .string _⟩, ⟨_, rfl, .ptr _ _ _ rfl⟩, ⟨_, rfl, .ptr _ _ _ rfl⟩, ⟨_, rfl, .sl _ _ _ _ _ rfl⟩, ⟨_, rfl, .int _ _⟩, slot_int rfl (by rw [wrapN (by omega) (by omega)]; omega), trivial⟩ ⟨⟨by decide, _, rfl, ?_⟩, ⟨by decide, _, rfl, .same rfl⟩, ⟨by decide, _, rfl, .same (flat_plain _ Pt.cell_plain ps)⟩, ⟨by decide, _, rfl, ?_⟩, trivial⟩ (.fn _ _ _ _ _ _ _ (.cons _ _ _ _ (.ptr _ _ _ rfl) (.cons _ _ _ _ (.ptr _ _ _ rfl) .nil)) .nil .nil)
            · exact ro_slice rfl
            · refine ro_eq ?_ (flat_plain pc pc_plain _)
              show [Value.string (subS s (Int.toNat 0) ((k : Int)).toNat), .bool false] = _
              rw [sub_take s _ _ hx]; rfl
    · have h1 : ¬ i < ps.length := by have := of_decide_eq_false h1; omega
      exact absurd hacc (by simp; omega)
  | cons a l =>
    refine sx_ok (tbOf mixed [ct_partsAt t ps ht, ct_texts, ct_first]) [2, 3] 0 _ none mixed _ _ _ ?_
    refine ifK (fun h1 => ?_) (fun h1 => ?_)
    · have h1 : i < ps.length := by have := of_decide_eq_true h1; omega
      have hst := cuts_step ps i h1 (bs s)
      have hsd := side h1
      refine ifK (fun _ => ?_) (fun h2 => absurd h2 (by simp [inI]; omega))
      cases hp : ps[i] with
      | nm =>
        rw [hp] at hst hsd
        refine Exists.intro 0 (Exists.intro true (Exists.intro false (And.intro hsd ?_)))
        refine And.intro hsB ?_
        refine ifK (fun h3 => ?_) (fun h3 => ?_)
        · obtain ⟨k, hk⟩ := Option.isSome_iff_exists.1 h3
          have hcut : Pt.nm.cut (bs s) = some k := hk
          have hkn : frontN (bs s) = k := by simp [frontN, hk]
          have hkl := front_le hk
          have hx : ((subS s 0 (frontN (bs s))).data.size : Int) = (k : Nat) := by rw [bs_size, bs_sub, hkn]; simp; omega
          refine And.intro (by kernel_rfl) ?_
          refine And.intro (by rw [hx]; simp only [inLH, bs_size, Bool.and_eq_true, decide_eq_true_eq] <;> omega) ?_
          refine And.intro (by rw [flat_length pc 2 pc_len]; have hT : (Tryz.prog.types[301]).size = 2 := (by kernel_rfl); have hB : (Tryz.prog.types[301]).bytes = 24 := (by kernel_rfl); have hl : l.length + 1 = i := hacc; simp [oneL, Value.oneCell', hT, hB]; omega) ?_
          refine And.intro (by rw [hx]; simp only [inLH, bs_size, Bool.and_eq_true, decide_eq_true_eq] <;> omega) ?_
          refine ⟨(i + 1, (a :: l) ++ [((bs s).take (k), true)], subS s (((subS s 0 (frontN (bs s))).data.size : Int)).toNat ((s.data.size : Int)).toNat), ⟨h1, ?_, ?_, ?_⟩, ?_, ?_⟩
          · show (bs (subS s _ _)).length ≤ _; rw [sub_rest s _ _ hx]; simp <;> omega
          · simp only [List.length_append, hacc]; rfl
          · show cuts ps (bs s0) = (cuts (ps.drop (i + 1)) (bs (subS s _ _))).map _; rw [sub_rest s _ _ hx, heq, hst, hcut]; simp only [Option.map_map]; exact congrArg (fun g => Option.map g _) (funext fun y => by simp [Pt.isName])
          · show ps.length - (i + 1) < ps.length - i; omega
          · refine rc_slots [0, 1, 2, 6] rfl rfl rfl (fun l e => by cases e) (by decide) (by decide) rfl rfl (fun k hk h => by omega) ⟨⟨_, rfl, .string _⟩, ⟨_, rfl, .ptr _ _ _ rfl⟩, ⟨_, rfl, .ptr _ _ _ rfl⟩, ⟨_, rfl, .sl _ _ _ _ _ rfl⟩, ⟨_, rfl, .int _ _⟩, slot_int rfl (by rw [wrapN (by omega) (by omega)]; omega), trivial⟩ ⟨⟨by decide, _, rfl, ?_⟩, ⟨by decide, _, rfl, .same rfl⟩, ⟨by decide, _, rfl, .same (flat_plain _ Pt.cell_plain ps)⟩, ⟨by decide, _, rfl, ?_⟩, trivial⟩ (.fn _ _ _ _ _ _ _ (.cons _ _ _ _ (.ptr _ _ _ rfl) (.cons _ _ _ _ (.ptr _ _ _ rfl) .nil)) .nil .nil)
            · have : (l ++ [((bs s).take (k), true)]).length = l.length + 1 := by simp
              show RO _ _ _ (.cells [.slice _ ((l ++ [_]).length + 1) U] _)
              rw [this]
              exact ro_slice rfl
            · refine ro_eq ?_ (flat_plain pc pc_plain _)
              show List.take ((l.length + 1) * 2) ((a :: l).flatMap pc) ++ [Value.string (subS s (Int.toNat 0) (((subS s 0 (frontN (bs s))).data.size : Int)).toNat), .bool true] = _
              rw [sub_take s _ _ hx, List.take_of_length_le (by rw [flat_length pc 2 pc_len]; simp)]
              show _ = ((a :: l) ++ [_]).flatMap pc
              rw [flat_snoc]; rfl
        · have hcut : Pt.nm.cut (bs s) = none := by have : (front (bs s)).isSome = false := h3; simpa [Pt.cut] using this
          have hn : cuts ps (bs s0) = none := by rw [heq, hst, hcut]; rfl
          refine And.intro rfl (rc_end (rc_slots [0, 1, 3] (d := 7) (d2 := 2) (lv := [(4, .pointer (some ⟨0, 0, none⟩)), (5, .pointer (some ⟨1, 0, none⟩))]) (bs := [(0, .cells [.slice (some ⟨2, 0, none⟩) (l.length + 1) U] 297), (1, .cells [.bool false] 4)]) (W := []) (m := 3) (df := [.call 195 [.pointer (some ⟨0, 0, none⟩), .pointer (some ⟨1, 0, none⟩)] []]) rfl rfl rfl (fun l e => by cases e) (by decide) (by decide) rfl rfl (fun k hk h => by omega) ⟨⟨_, rfl, .ptr _ _ _ rfl⟩, ⟨_, rfl, .ptr _ _ _ rfl⟩, trivial⟩ ⟨⟨by decide, _, rfl, ro_slice rfl⟩, ⟨by decide, _, rfl, .same rfl⟩, trivial⟩ (.fn _ _ _ _ _ _ _ (.cons _ _ _ _ (.ptr _ _ _ rfl) (.cons _ _ _ _ (.ptr _ _ _ rfl) .nil)) .nil .nil)) (fun f2 => ?_))
          refine Eq.mpr (end_pan1 _ _ l.length f2) ?_
          exact Exists.intro _ (Exists.intro _ (Exists.intro _ (Or.inr (And.intro hn rfl))))
      | rest =>
        rw [hp] at hst hsd
        refine Exists.intro 0 (Exists.intro false (Exists.intro true (And.intro hsd ?_)))
        refine And.intro hsB ?_
        refine ifK (fun h3 => ?_) (fun h3 => ?_)
        · have hcut : Pt.rest.cut (bs s) = some (bs s).length := by have h3 : texts (bs s) = true := h3; simp [Pt.cut, h3]
          have hx : (s.data.size : Int) = ((bs s).length : Nat) := by rw [bs_size]
          refine And.intro (by kernel_rfl) ?_
          refine And.intro (by rw [hx]; simp only [inLH, bs_size, Bool.and_eq_true, decide_eq_true_eq] <;> omega) ?_
          refine And.intro (by rw [flat_length pc 2 pc_len]; have hT : (Tryz.prog.types[301]).size = 2 := (by kernel_rfl); have hB : (Tryz.prog.types[301]).bytes = 24 := (by kernel_rfl); have hl : l.length + 1 = i := hacc; simp [oneL, Value.oneCell', hT, hB]; omega) ?_
          refine And.intro (by rw [hx]; simp only [inLH, bs_size, Bool.and_eq_true, decide_eq_true_eq] <;> omega) ?_
          refine ⟨(i + 1, (a :: l) ++ [((bs s).take ((bs s).length), false)], subS s ((s.data.size : Int)).toNat ((s.data.size : Int)).toNat), ⟨h1, ?_, ?_, ?_⟩, ?_, ?_⟩
          · show (bs (subS s _ _)).length ≤ _; rw [sub_rest s _ _ hx]; simp <;> omega
          · simp only [List.length_append, hacc]; rfl
          · show cuts ps (bs s0) = (cuts (ps.drop (i + 1)) (bs (subS s _ _))).map _; rw [sub_rest s _ _ hx, heq, hst, hcut]; simp only [Option.map_map]; exact congrArg (fun g => Option.map g _) (funext fun y => by simp [Pt.isName])
          · show ps.length - (i + 1) < ps.length - i; omega
          · refine rc_slots [0, 1, 2, 6] rfl rfl rfl (fun l e => by cases e) (by decide) (by decide) rfl rfl (fun k hk h => by omega) ⟨⟨_, rfl, .string _⟩, ⟨_, rfl, .ptr _ _ _ rfl⟩, ⟨_, rfl, .ptr _ _ _ rfl⟩, ⟨_, rfl, .sl _ _ _ _ _ rfl⟩, ⟨_, rfl, .int _ _⟩, slot_int rfl (by rw [wrapN (by omega) (by omega)]; omega), trivial⟩ ⟨⟨by decide, _, rfl, ?_⟩, ⟨by decide, _, rfl, .same rfl⟩, ⟨by decide, _, rfl, .same (flat_plain _ Pt.cell_plain ps)⟩, ⟨by decide, _, rfl, ?_⟩, trivial⟩ (.fn _ _ _ _ _ _ _ (.cons _ _ _ _ (.ptr _ _ _ rfl) (.cons _ _ _ _ (.ptr _ _ _ rfl) .nil)) .nil .nil)
            · have : (l ++ [((bs s).take ((bs s).length), false)]).length = l.length + 1 := by simp
              show RO _ _ _ (.cells [.slice _ ((l ++ [_]).length + 1) U] _)
              rw [this]
              exact ro_slice rfl
            · refine ro_eq ?_ (flat_plain pc pc_plain _)
              show List.take ((l.length + 1) * 2) ((a :: l).flatMap pc) ++ [Value.string (subS s (Int.toNat 0) ((s.data.size : Int)).toNat), .bool false] = _
              rw [sub_take s _ _ hx, List.take_of_length_le (by rw [flat_length pc 2 pc_len]; simp)]
              show _ = ((a :: l) ++ [_]).flatMap pc
              rw [flat_snoc]; rfl
        · have hcut : Pt.rest.cut (bs s) = none := by have h3 : texts (bs s) = false := h3; simp [Pt.cut, h3]
          have hn : cuts ps (bs s0) = none := by rw [heq, hst, hcut]; rfl
          refine And.intro rfl (rc_end (rc_slots [0, 1, 3] (d := 7) (d2 := 2) (lv := [(4, .pointer (some ⟨0, 0, none⟩)), (5, .pointer (some ⟨1, 0, none⟩))]) (bs := [(0, .cells [.slice (some ⟨2, 0, none⟩) (l.length + 1) U] 297), (1, .cells [.bool false] 4)]) (W := []) (m := 3) (df := [.call 195 [.pointer (some ⟨0, 0, none⟩), .pointer (some ⟨1, 0, none⟩)] []]) rfl rfl rfl (fun l e => by cases e) (by decide) (by decide) rfl rfl (fun k hk h => by omega) ⟨⟨_, rfl, .ptr _ _ _ rfl⟩, ⟨_, rfl, .ptr _ _ _ rfl⟩, trivial⟩ ⟨⟨by decide, _, rfl, ro_slice rfl⟩, ⟨by decide, _, rfl, .same rfl⟩, trivial⟩ (.fn _ _ _ _ _ _ _ (.cons _ _ _ _ (.ptr _ _ _ rfl) (.cons _ _ _ _ (.ptr _ _ _ rfl) .nil)) .nil .nil)) (fun f2 => ?_))
          refine Eq.mpr (end_pan1 _ _ l.length f2) ?_
          exact Exists.intro _ (Exists.intro _ (Exists.intro _ (Or.inr (And.intro hn rfl))))
      | sz k =>
        rw [hp] at hst hsd
        refine Exists.intro (k : Int) (Exists.intro false (Exists.intro false (And.intro hsd ?_)))
        refine ifK (fun h3 => ?_) (fun h3 => ?_)
        · have h3 : ¬ k ≤ (bs s).length := by have := of_decide_eq_true h3; rw [bs_size] at this; omega
          have hcut : (Pt.sz k).cut (bs s) = none := by simp [Pt.cut, h3]
          have hn : cuts ps (bs s0) = none := by rw [heq, hst, hcut]; rfl
          refine And.intro rfl (rc_end (rc_slots [0, 1, 3] (d := 7) (d2 := 2) (lv := [(4, .pointer (some ⟨0, 0, none⟩)), (5, .pointer (some ⟨1, 0, none⟩))]) (bs := [(0, .cells [.slice (some ⟨2, 0, none⟩) (l.length + 1) U] 297), (1, .cells [.bool false] 4)]) (W := []) (m := 3) (df := [.call 195 [.pointer (some ⟨0, 0, none⟩), .pointer (some ⟨1, 0, none⟩)] []]) rfl rfl rfl (fun l e => by cases e) (by decide) (by decide) rfl rfl (fun k hk h => by omega) ⟨⟨_, rfl, .ptr _ _ _ rfl⟩, ⟨_, rfl, .ptr _ _ _ rfl⟩, trivial⟩ ⟨⟨by decide, _, rfl, ro_slice rfl⟩, ⟨by decide, _, rfl, .same rfl⟩, trivial⟩ (.fn _ _ _ _ _ _ _ (.cons _ _ _ _ (.ptr _ _ _ rfl) (.cons _ _ _ _ (.ptr _ _ _ rfl) .nil)) .nil .nil)) (fun f2 => ?_))
          refine Eq.mpr (end_pan1 _ _ l.length f2) ?_
          exact Exists.intro _ (Exists.intro _ (Exists.intro _ (Or.inr (And.intro hn rfl))))
        · have h3 : k ≤ (bs s).length := by have := of_decide_eq_false h3; rw [bs_size] at this; omega
          have hcut : (Pt.sz k).cut (bs s) = some k := by simp [Pt.cut, h3]
          have hx : (k : Int) = (k : Nat) := rfl
          refine And.intro (by kernel_rfl) ?_
          refine And.intro (by rw [hx]; simp only [inLH, bs_size, Bool.and_eq_true, decide_eq_true_eq] <;> omega) ?_
          refine And.intro (by rw [flat_length pc 2 pc_len]; have hT : (Tryz.prog.types[301]).size = 2 := (by kernel_rfl); have hB : (Tryz.prog.types[301]).bytes = 24 := (by kernel_rfl); have hl : l.length + 1 = i := hacc; simp [oneL, Value.oneCell', hT, hB]; omega) ?_
          refine And.intro (by rw [hx]; simp only [inLH, bs_size, Bool.and_eq_true, decide_eq_true_eq] <;> omega) ?_
          refine ⟨(i + 1, (a :: l) ++ [((bs s).take (k), false)], subS s ((k : Int)).toNat ((s.data.size : Int)).toNat), ⟨h1, ?_, ?_, ?_⟩, ?_, ?_⟩
          · show (bs (subS s _ _)).length ≤ _; rw [sub_rest s _ _ hx]; simp <;> omega
          · simp only [List.length_append, hacc]; rfl
          · show cuts ps (bs s0) = (cuts (ps.drop (i + 1)) (bs (subS s _ _))).map _; rw [sub_rest s _ _ hx, heq, hst, hcut]; simp only [Option.map_map]; exact congrArg (fun g => Option.map g _) (funext fun y => by simp [Pt.isName])
          · show ps.length - (i + 1) < ps.length - i; omega
          · refine rc_slots [0, 1, 2, 6] rfl rfl rfl (fun l e => by cases e) (by decide) (by decide) rfl rfl (fun k hk h => by omega) ⟨⟨_, rfl, .string _⟩, ⟨_, rfl, .ptr _ _ _ rfl⟩, ⟨_, rfl, .ptr _ _ _ rfl⟩, ⟨_, rfl, .sl _ _ _ _ _ rfl⟩, ⟨_, rfl, .int _ _⟩, slot_int rfl (by rw [wrapN (by omega) (by omega)]; omega), trivial⟩ ⟨⟨by decide, _, rfl, ?_⟩, ⟨by decide, _, rfl, .same rfl⟩, ⟨by decide, _, rfl, .same (flat_plain _ Pt.cell_plain ps)⟩, ⟨by decide, _, rfl, ?_⟩, trivial⟩ (.fn _ _ _ _ _ _ _ (.cons _ _ _ _ (.ptr _ _ _ rfl) (.cons _ _ _ _ (.ptr _ _ _ rfl) .nil)) .nil .nil)
            · have : (l ++ [((bs s).take (k), false)]).length = l.length + 1 := by simp
              show RO _ _ _ (.cells [.slice _ ((l ++ [_]).length + 1) U] _)
              rw [this]
              exact ro_slice rfl
            · refine ro_eq ?_ (flat_plain pc pc_plain _)
              show List.take ((l.length + 1) * 2) ((a :: l).flatMap pc) ++ [Value.string (subS s (Int.toNat 0) ((k : Int)).toNat), .bool false] = _
              rw [sub_take s _ _ hx, List.take_of_length_le (by rw [flat_length pc 2 pc_len]; simp)]
              show _ = ((a :: l) ++ [_]).flatMap pc
              rw [flat_snoc]; rfl
    · have h1 : ¬ i < ps.length := by have := of_decide_eq_false h1; omega
      have hc : cuts ps (bs s0) = some (a :: l, bs s) := by rw [heq, List.drop_eq_nil_of_le (by omega)]; simp [cuts]
      refine And.intro rfl ?_
      refine (rc_end (rc_slots [0, 1, 3] (d := 7) (d2 := 2) (lv := [(4, .pointer (some ⟨0, 0, none⟩)), (5, .pointer (some ⟨1, 0, none⟩))]) (bs := [(0, .cells [.slice (some ⟨2, 0, none⟩) (l.length + 1) U] 297), (1, .cells [.bool (s.data.toList == [])] 4), (2, .cells ((a :: l).flatMap pc) 301)]) (W := []) (m := 3) (df := [.call 195 [.pointer (some ⟨0, 0, none⟩), .pointer (some ⟨1, 0, none⟩)] []]) rfl rfl rfl (fun l e => by cases e) (by decide) (by decide) rfl rfl (fun k hk h => by omega) ⟨⟨_, rfl, .ptr _ _ _ rfl⟩, ⟨_, rfl, .ptr _ _ _ rfl⟩, trivial⟩ ⟨⟨by decide, _, rfl, ro_slice rfl⟩, ⟨by decide, _, rfl, .same rfl⟩, ⟨by decide, _, rfl, .same (flat_plain pc pc_plain _)⟩, trivial⟩ (.fn _ _ _ _ _ _ _ (.cons _ _ _ _ (.ptr _ _ _ rfl) (.cons _ _ _ _ (.ptr _ _ _ rfl) .nil)) .nil .nil)) (fun f2 => ?_))
      refine Eq.mpr (end_ret _ _ l.length (s.data.toList == []) ((a :: l).flatMap pc) f2) ?_
      have hem : (bs s).isEmpty = (s.data.toList == []) := by show _ = (bs s == []); cases bs s <;> rfl
      refine ⟨?zH, ?zm, ?zw, Or.inl ⟨a :: l, bs s, 2, hc, ?zg, ?zh, by decide⟩⟩
      case zg => rw [hem]; exact rfl
      case zh => exact end_ret_get _ _ _ _ _
end Go.Proofs.YtjbcamcegnjnaaaGreat
/- DERIVED. What is known of the document's names, as contracts. -/
namespace Go.Proofs.YtjbcamcegnjnaaaGreat
open Go Go.RowKit
end Go.Proofs.YtjbcamcegnjnaaaGreat
/- DERIVED. Data: split as a contract. -/
namespace Go.Proofs.YtjbcamcegnjnaaaGreat
open Go Go.RowKit

/-- The parts of a type that is known. -/
def ptsT (t : Int) : Option (List Pt) :=
  bif t == 1 then some [.sz 4] else bif t == 28 then some [.sz 16] else bif t == 2 then some [.nm] else bif t == 5 then some [.nm] else bif t == 12 then some [.nm] else bif t == 15 then some [.sz 2, .nm]
  else bif t == 6 then some [.nm, .nm, .sz 20] else bif t == 16 then some [.rest] else none
theorem ptsT_some {t : Int} {ps : List Pt} (h : ptsT t = some ps) : 0 < ps.length ∧ ps.length < 1000 ∧ ∀ H n, partsGo t H n partsTab = partsOut ps.length (ps.flatMap Pt.cell) H n := by
  unfold ptsT at h
  unfold partsTab
  simp only [partsGo]
  cases h1 : (t == 1) with
  | true => rw [h1] at h; cases h; exact ⟨by decide, by decide, fun _ _ => rfl⟩
  | false =>
  cases h2 : (t == 28) with
  | true => rw [h1, h2] at h; cases h; exact ⟨by decide, by decide, fun _ _ => rfl⟩
  | false =>
  cases h3 : (t == 2) with
  | true => rw [h1, h2, h3] at h; cases h; exact ⟨by decide, by decide, fun _ _ => rfl⟩
  | false =>
  cases h4 : (t == 5) with
  | true => rw [h1, h2, h3, h4] at h; cases h; exact ⟨by decide, by decide, fun _ _ => rfl⟩
  | false =>
  cases h5 : (t == 12) with
  | true => rw [h1, h2, h3, h4, h5] at h; cases h; exact ⟨by decide, by decide, fun _ _ => rfl⟩
  | false =>
  cases h6 : (t == 15) with
  | true => rw [h1, h2, h3, h4, h5, h6] at h; cases h; exact ⟨by decide, by decide, fun _ _ => rfl⟩
  | false =>
  cases h7 : (t == 6) with
  | true => rw [h1, h2, h3, h4, h5, h6, h7] at h; cases h; exact ⟨by decide, by decide, fun _ _ => rfl⟩
  | false =>
  cases h8 : (t == 16) with
  | true => rw [h1, h2, h3, h4, h5, h6, h7, h8] at h; cases h; exact ⟨by decide, by decide, fun _ _ => rfl⟩
  | false => rw [h1, h2, h3, h4, h5, h6, h7, h8] at h; cases h
theorem ptsT_none {t : Int} (h : ptsT t = none) : ∀ H n, partsGo t H n partsTab = .ret (.tuple #[.slice none 0 0, .bool false]) H n [] := by
  unfold ptsT at h
  unfold partsTab
  simp only [partsGo]
  cases h1 : (t == 1) with
  | true => rw [h1] at h; cases h
  | false =>
  cases h2 : (t == 28) with
  | true => rw [h1, h2] at h; cases h
  | false =>
  cases h3 : (t == 2) with
  | true => rw [h1, h2, h3] at h; cases h
  | false =>
  cases h4 : (t == 5) with
  | true => rw [h1, h2, h3, h4] at h; cases h
  | false =>
  cases h5 : (t == 12) with
  | true => rw [h1, h2, h3, h4, h5] at h; cases h
  | false =>
  cases h6 : (t == 15) with
  | true => rw [h1, h2, h3, h4, h5, h6] at h; cases h
  | false =>
  cases h7 : (t == 6) with
  | true => rw [h1, h2, h3, h4, h5, h6, h7] at h; cases h
  | false =>
  cases h8 : (t == 16) with
  | true => rw [h1, h2, h3, h4, h5, h6, h7, h8] at h; cases h
  | false => exact fun _ _ => rfl

/-- The contract of 'parts' for a type that is not known. -/
def ct_partsNo (t : Int) (h : ∀ H n, partsGo t H n partsTab = .ret (.tuple #[.slice none 0 0, .bool false]) H n []) : Ct Tryz.prog 0 where
  f := 182
  res l H n := match l with | [.int .i64 t'] => bif t' == t then .ret (.tuple #[.slice none 0 0, .bool false]) H n [] else .bad "type" [] | _ => .bad "arguments" []
  ok l H n := by
    split
    · rename_i t'
      cases hb : (t' == t) with
      | false => trivial
      | true =>
        have hb : t' = t := by simpa using hb
        subst hb
        have := parts_ok t' H n
        rw [h] at this
        exact this
    · trivial
  ck l H n K := match l with | [.int .i64 t'] => (t' == t) = true ∧ K (.ret (.tuple #[.slice none 0 0, .bool false]) H n []) | _ => False
  imp l H n K h := by
    split at h
    · obtain ⟨h1, h2⟩ := h
      simp only [h1, cond_true]; exact h2
    · exact h.elim

set_option maxRecDepth 1000000 in
theorem splitNo_fn (t : Int) (ht : ∀ H n, partsGo t H n partsTab = .ret (.tuple #[.slice none 0 0, .bool false]) H n []) (s : ByteArray) :
    ∃ r, FnS Tryz.prog 0 172 [.int .i64 t, .string s] .e 0 r ∧ ∃ H m wr b, r = .ret (.tuple #[.slice (some ⟨b, 0, none⟩) 1 1, .bool true]) H m wr ∧ H.get b = some (.cells [.string s, .bool false] 301) ∧ b < JJ := by
  refine fn_sx mixed (tbOf mixed [ct_partsNo t ht]) [] Tryz.func172 (c := bodyOf Tryz.f172) (by kernel_rfl) ?_
  refine And.intro (by simp) ?_
  exact ⟨_, _, _, _, rfl, rfl, by decide⟩
end Go.Proofs.YtjbcamcegnjnaaaGreat
/- DERIVED. Data: split's contract; Check. -/
namespace Go.Proofs.YtjbcamcegnjnaaaGreat
open Go Go.RowKit

/-- What split tells of data of a type that is known. -/
def outT (t : Int) (l : Bs) : Option (List (Bs × Bool) × Bs) := match ptsT t with | some ps => cuts ps l | none => none
def outP (t : Int) (l : Bs) : List (Bs × Bool) := match outT t l with | some x => x.1 | none => []
def outR (t : Int) (l : Bs) : Bs := match outT t l with | some x => x.2 | none => []

theorem callOK_split (t : Int) (s : ByteArray) (hs : (bs s).length ≤ 1000000000) (H : Tr AObj) (n : Nat) :
    (ptsT t = none → CallOK Tryz.prog 0 172 [.int .i64 t, .string s] H n (.ret (.tuple #[.slice (some ⟨n, 0, none⟩) 1 1, .bool true]) (H.set n (some (.cells [.string s, .bool false] 301))) (n + 1) [])) ∧
    ((ptsT t).isSome = true → (outT t (bs s)).isSome = true → CallOK Tryz.prog 0 172 [.int .i64 t, .string s] H n (.ret (.tuple #[.slice (some ⟨n, 0, none⟩) (outP t (bs s)).length U, .bool (outR t (bs s)).isEmpty]) (H.set n (some (.cells ((outP t (bs s)).flatMap pc) 301))) (n + 1) [])) ∧
    ((ptsT t).isSome = true → (outT t (bs s)).isSome = false → CallOK Tryz.prog 0 172 [.int .i64 t, .string s] H n (.ret (.tuple #[.slice none 0 0, .bool false]) H n [])) := by
  refine ⟨fun h => ?_, fun h1 h2 => ?_, fun h1 h2 => ?_⟩
  · obtain ⟨r, hF, H', m, wr, b, rfl, hb, hJ⟩ := splitNo_fn t (ptsT_none h) s
    exact callOK_fresh1 (fun n => .tuple #[.slice (some ⟨n, 0, none⟩) 1 1, .bool true]) hF rfl hb hJ rfl (fun n => .tuple _ _ (.cons _ _ _ _ (.sl _ _ _ _ _ (tau_one _ _)) (.cons _ _ _ _ (.bool _) .nil))) H n
  · obtain ⟨ps, hp⟩ := Option.isSome_iff_exists.1 h1
    obtain ⟨p1, p2, p3⟩ := ptsT_some hp
    obtain ⟨⟨out, rest⟩, ho⟩ := Option.isSome_iff_exists.1 h2
    have hc : cuts ps (bs s) = some (out, rest) := by unfold outT at ho; rw [hp] at ho; exact ho
    have e1 : outP t (bs s) = out := by unfold outP; rw [ho]
    have e2 : outR t (bs s) = rest := by unfold outR; rw [ho]
    obtain ⟨r, hF, H', m, wr, ⟨out', rest', b, q1, rfl, q3, q4⟩ | ⟨q1, _⟩⟩ := split_fn t ps p1 p2 p3 s hs
    · rw [hc] at q1; cases q1
      rw [e1, e2]
      exact callOK_fresh1 (fun n => .tuple #[.slice (some ⟨n, 0, none⟩) out.length U, .bool rest.isEmpty]) hF rfl q3 q4 (flat_plain pc pc_plain _) (fun n => .tuple _ _ (.cons _ _ _ _ (.sl _ _ _ _ _ (tau_one _ _)) (.cons _ _ _ _ (.bool _) .nil))) H n
    · rw [hc] at q1; cases q1
  · obtain ⟨ps, hp⟩ := Option.isSome_iff_exists.1 h1
    obtain ⟨p1, p2, p3⟩ := ptsT_some hp
    have hc : cuts ps (bs s) = none := by unfold outT at h2; rw [hp] at h2; simpa using h2
    obtain ⟨r, hF, H', m, wr, ⟨out', rest', b, q1, _⟩ | ⟨_, rfl⟩⟩ := split_fn t ps p1 p2 p3 s hs
    · rw [hc] at q1; cases q1
    · exact callOK_pure hF rfl rfl H n

def ct_split : Ct Tryz.prog 0 where
  f := 172
  res l H n := match l with
    | [.int .i64 t, .string s] => bif shortB s then (bif (ptsT t).isSome then (bif (outT t (bs s)).isSome then .ret (.tuple #[.slice (some ⟨n, 0, none⟩) (outP t (bs s)).length U, .bool (outR t (bs s)).isEmpty]) (H.set n (some (.cells ((outP t (bs s)).flatMap pc) 301))) (n + 1) [] else .ret (.tuple #[.slice none 0 0, .bool false]) H n [])
        else .ret (.tuple #[.slice (some ⟨n, 0, none⟩) 1 1, .bool true]) (H.set n (some (.cells [.string s, .bool false] 301))) (n + 1) []) else .bad "long" []
    | _ => .bad "arguments" []
  ok l H n := by
    split
    · rename_i t s
      cases hs : shortB s with
      | false => trivial
      | true =>
        obtain ⟨c1, c2, c3⟩ := callOK_split t s (short_len hs) H n
        cases h1 : (ptsT t).isSome with
        | false => exact c1 (by simpa using h1)
        | true =>
          cases h2 : (outT t (bs s)).isSome with
          | true => exact c2 h1 h2
          | false => exact c3 h1 h2
    · trivial
  ck l H n K := match l with
    | [.int .i64 t, .string s] => shortB s = true ∧ brK (ptsT t).isSome (brK (outT t (bs s)).isSome (K (.ret (.tuple #[.slice (some ⟨n, 0, none⟩) (outP t (bs s)).length U, .bool (outR t (bs s)).isEmpty]) (H.set n (some (.cells ((outP t (bs s)).flatMap pc) 301))) (n + 1) [])) (K (.ret (.tuple #[.slice none 0 0, .bool false]) H n [])))
        (K (.ret (.tuple #[.slice (some ⟨n, 0, none⟩) 1 1, .bool true]) (H.set n (some (.cells [.string s, .bool false] 301))) (n + 1) []))
    | _ => False
  imp l H n K h := by
    split at h
    · rename_i t s
      obtain ⟨h0, h⟩ := h
      simp only [h0, cond_true]
      cases h1 : (ptsT t).isSome with
      | false => rw [h1] at h; exact h
      | true =>
        rw [h1] at h
        cases h2 : (outT t (bs s)).isSome with
        | true => rw [h2] at h; exact h
        | false => rw [h2] at h; exact h
    · exact h.elim

/-- Are data those of a type? -/
def fitsD (t : Int) (l : Bs) : Bool := bif (ptsT t).isSome then (outT t l).isSome && (outR t l).isEmpty else true
/-- What Check tells. -/
def checkD (t : Int) (l : Bs) : Int := if t < 0 ∨ 65535 < t then 5 else if 65535 < l.length then 3 else if fitsD t l then 0 else 4

noncomputable def tbE2 : Tb Tryz.prog 0 := tbOf mixed [ct_split]
set_option maxRecDepth 100000 in
theorem check_fn (t : Int) (s : ByteArray) (hs : (bs s).length ≤ 1000000000) : ∃ r, FnS Tryz.prog 0 170 [.int .i64 t, .string s] .e 0 r ∧ ∃ H m wr, r = .ret (.int .i64 (checkD t (bs s))) H m wr := by
  have hsB : shortB s = true := by unfold shortB; rw [bs_size]; exact Nat.ble_eq_true_of_le hs
  refine fn_sx mixed tbE2 [] Tryz.func170 (c := bodyOf Tryz.f170) (by kernel_rfl) ?_
  unfold checkD fitsD
  refine ifK (fun h1 => ?_) (fun h1 => ?_)
  · rw [if_pos (.inl (of_decide_eq_true h1))]; exact ⟨_, _, _, rfl⟩
  have h1 := of_decide_eq_false h1
  refine ifK (fun h2 => ?_) (fun h2 => ?_)
  · rw [if_pos (.inr (of_decide_eq_true h2))]; exact ⟨_, _, _, rfl⟩
  have h2 := of_decide_eq_false h2
  rw [if_neg (by omega)]
  refine ifK (fun h3 => ?_) (fun h3 => ?_)
  · have h3 := of_decide_eq_true h3
    rw [bs_size] at h3
    rw [if_pos (by omega)]; exact ⟨_, _, _, rfl⟩
  have h3 := of_decide_eq_false h3
  rw [bs_size] at h3
  rw [if_neg (by omega)]
  refine And.intro hsB ?_
  refine ifK (fun h4 => ?_) (fun h4 => ?_)
  · rw [h4]
    refine ifK (fun h5 => ?_) (fun h5 => ?_)
    · rw [h5]
      refine ifK (fun h6 => ?_) (fun h6 => ?_)
      · rw [show (outR t (bs s)).isEmpty = false by simpa using h6]; exact ⟨_, _, _, rfl⟩
      · rw [show (outR t (bs s)).isEmpty = true by simpa using h6]; exact ⟨_, _, _, rfl⟩
    · rw [h5]; exact ⟨_, _, _, rfl⟩
  · rw [h4]; exact ⟨_, _, _, rfl⟩

/-- A function of a number and a string that was walked. -/
def Ct.intStr (f : FuncId) (out : Int → ByteArray → Value) (hp : ∀ t s, plainV 8 (out t s) = true) (ok : ∀ t s, (bs s).length ≤ 1000000000 → ∃ H m wr, FnS Tryz.prog 0 f [.int .i64 t, .string s] .e 0 (.ret (out t s) H m wr)) : Ct Tryz.prog 0 where
  f := f
  res l H n := match l with | [.int .i64 t, .string s] => bif shortB s then .ret (out t s) H n [] else .bad "long" [] | _ => .bad "arguments" []
  ok l H n := by
    split
    · rename_i t s
      cases hs : shortB s with
      | false => trivial
      | true => obtain ⟨_, _, _, h⟩ := ok t s (short_len hs); exact callOK_pure h rfl (hp t s) H n
    · trivial
  ck l H n K := match l with | [.int .i64 t, .string s] => shortB s = true ∧ K (.ret (out t s) H n []) | _ => False
  imp l H n K h := by
    split at h
    · obtain ⟨h1, h2⟩ := h
      simp only [h1, cond_true]; exact h2
    · exact h.elim

def ct_rdcheck : Ct Tryz.prog 0 := Ct.intStr 170 (fun t s => .int .i64 (checkD t (bs s))) (fun _ _ => rfl) (fun t s hs => by
  obtain ⟨r, h, H, m, wr, rfl⟩ := check_fn t s hs
  exact ⟨H, m, wr, h⟩)
end Go.Proofs.YtjbcamcegnjnaaaGreat
/- DERIVED. Data: Lower. -/
namespace Go.Proofs.YtjbcamcegnjnaaaGreat
open Go Go.RowKit
noncomputable def tbE3 : Tb Tryz.prog 0 := tbOf mixed [ct_split, ct_rdcheck, ct_lower]

/-- A piece in lower form. -/
def lowP (p : Bs × Bool) : Bs := if p.2 then lower p.1 else p.1
theorem bs_cat (s t : ByteArray) : bs (catS s t) = bs s ++ bs t := by simp [bs, catS]
theorem bs_mk (l : Bs) : bs ⟨l.toArray⟩ = l := by simp [bs]
theorem lower_len (l : Bs) : (lower l).length = l.length := by simp [lower]
theorem lowP_len (p : Bs × Bool) : (lowP p).length = p.1.length := by unfold lowP; split <;> simp [lower_len]
theorem catOk_of {s t : ByteArray} (h : (bs s).length + (bs t).length ≤ 9000000000000000000) : catOk s t = true := by
  unfold catOk
  rw [bs_size, bs_size]; exact Nat.ble_eq_true_of_le (by omega)
theorem shortB_of {s : ByteArray} (h : (bs s).length ≤ 1000000000) : shortB s = true := by unfold shortB; rw [bs_size]; exact Nat.ble_eq_true_of_le h
def sumL (ps : List (Bs × Bool)) : Nat := (ps.flatMap fun p => p.1).length
theorem sumL_at (ps : List (Bs × Bool)) (i : Nat) (h : i < ps.length) : (ps[i].1).length ≤ sumL ps := by
  unfold sumL
  have : ps[i] ∈ ps := List.getElem_mem h
  revert this
  generalize ps[i] = p
  intro hm
  induction ps with
  | nil => cases hm
  | cons q r ih =>
    rw [List.flatMap_cons, List.length_append]
    rcases List.mem_cons.1 hm with e | e
    · rw [e]; omega
    · by_cases hr : r = []
      · subst hr; cases e
      · have : ∀ (l : List (Bs × Bool)), p ∈ l → p.1.length ≤ (l.flatMap fun p => p.1).length := by
          intro l hl
          induction l with
          | nil => cases hl
          | cons x y ihy =>
            rw [List.flatMap_cons, List.length_append]
            rcases List.mem_cons.1 hl with e2 | e2
            · rw [e2]; omega
            · have := ihy e2; omega
        have := this r e; omega
theorem lowP_take (ps : List (Bs × Bool)) (i : Nat) (h : i < ps.length) : (ps.take (i + 1)).flatMap lowP = (ps.take i).flatMap lowP ++ lowP ps[i] := by
  rw [List.take_succ_eq_append_getElem h, List.flatMap_append]; simp only [List.flatMap_cons, List.flatMap_nil, List.append_nil]
theorem low_sum (ps : List (Bs × Bool)) (i : Nat) : ((ps.take i).flatMap lowP).length ≤ sumL ps := by
  unfold sumL
  induction ps generalizing i with
  | nil => simp
  | cons p r ih =>
    cases i with
    | zero => simp
    | succ i =>
      have := ih i
      simp only [List.take_succ_cons, List.flatMap_cons, List.length_append, lowP_len]; omega
theorem str_mk (s : ByteArray) : Value.string s = str (bs s) := by simp [str, bs]

def lwS (ps : List (Bs × Bool)) (c : Nat) (x : Nat × ByteArray) (f : Nat → Option Value) : Fs :=
  ⟨slots 7 [(7, .string x.2), (19, .slice (some ⟨0, 0, none⟩) ps.length c), (20, .int .i64 ps.length), (21, .int .i64 x.1)] f, heap 1 [(0, .cells (ps.flatMap pc) 301)], 1, [], []⟩

def lowerD (t : Int) (l : Bs) : Bs := bif (ptsT t).isSome then (bif (outT t l).isSome && (outR t l).isEmpty then (outP t l).flatMap lowP else l) else l
theorem cuts_sum : ∀ (ps : List Pt) (l : Bs) (o : List (Bs × Bool)) (r : Bs), cuts ps l = some (o, r) → o.length = ps.length ∧ (o.flatMap fun p => p.1) ++ r = l
  | [], l, o, r, h => by simp only [cuts, Option.some.injEq, Prod.mk.injEq] at h; obtain ⟨rfl, rfl⟩ := h; simp
  | p :: ps, l, o, r, h => by
    simp only [cuts] at h
    cases hc : p.cut l with
    | none => rw [hc] at h; cases h
    | some n =>
      rw [hc] at h
      simp only [] at h
      obtain ⟨⟨o', r'⟩, h1, h2⟩ := Option.map_eq_some_iff.1 h
      simp only [Prod.mk.injEq] at h2
      obtain ⟨rfl, rfl⟩ := h2
      obtain ⟨e1, e2⟩ := cuts_sum ps _ _ _ h1
      refine ⟨by simp [e1], ?_⟩
      rw [List.flatMap_cons, List.append_assoc, e2]; simp
theorem outP_sum {t : Int} {l : Bs} (h1 : (ptsT t).isSome = true) (h2 : (outT t l).isSome = true) : (outP t l).length < 1000 ∧ sumL (outP t l) ≤ l.length := by
  obtain ⟨ps, hp⟩ := Option.isSome_iff_exists.1 h1
  obtain ⟨⟨o, r⟩, ho⟩ := Option.isSome_iff_exists.1 h2
  have hc : cuts ps l = some (o, r) := by unfold outT at ho; rw [hp] at ho; exact ho
  have e1 : outP t l = o := by unfold outP; rw [ho]
  obtain ⟨q1, q2⟩ := cuts_sum ps l o r hc
  have := (ptsT_some hp).2.1
  rw [e1]
  refine ⟨by omega, ?_⟩
  unfold sumL; rw [← q2]; simp

end Go.Proofs.YtjbcamcegnjnaaaGreat
/- DERIVED. Data: what fits. -/
namespace Go.Proofs.YtjbcamcegnjnaaaGreat
open Go Go.RowKit
theorem check_zero {t : Int} {l : Bs} (h : checkD t l = 0) : 0 ≤ t ∧ t ≤ 65535 ∧ l.length ≤ 65535 ∧ fitsD t l = true := by
  unfold checkD at h
  split at h
  · cases h
  · split at h
    · cases h
    · split at h
      · rename_i h1 h2 h3
        exact ⟨by omega, by omega, by omega, h3⟩
      · cases h
theorem fits_out {t : Int} {ps : List Pt} {l : Bs} (hp : ptsT t = some ps) (h : fitsD t l = true) : ∃ o, cuts ps l = some (o, []) ∧ outT t l = some (o, []) := by
  unfold fitsD at h
  rw [hp] at h
  simp only [Option.isSome_some, cond_true, Bool.and_eq_true] at h
  obtain ⟨⟨o, r⟩, ho⟩ := Option.isSome_iff_exists.1 h.1
  have hr : r = [] := by
    have := h.2
    unfold outR at this
    rw [ho] at this
    simpa using this
  subst hr
  refine ⟨o, ?_, ho⟩
  unfold outT at ho
  rw [hp] at ho; exact ho
theorem cut_all {p : Pt} {l : Bs} {n : Nat} (h : p.cut l = some n) (hd : l.drop n = []) : l.take n = l := by
  rw [List.drop_eq_nil_iff] at hd
  exact List.take_of_length_le hd
theorem out_nm {t : Int} {l : Bs} (hp : ptsT t = some [.nm]) (h : fitsD t l = true) : outT t l = some ([(l, true)], []) := by
  obtain ⟨o, h1, h2⟩ := fits_out hp h
  rw [h2]
  simp only [cuts] at h1
  cases hc : Pt.nm.cut l with
  | none => rw [hc] at h1; cases h1
  | some n =>
    rw [hc] at h1
    simp only [Option.map_some, Option.some.injEq, Prod.mk.injEq] at h1
    obtain ⟨rfl, h3⟩ := h1
    rw [cut_all hc h3]; rfl
theorem out_mx {l : Bs} (h : fitsD 15 l = true) : outT 15 l = some ([(l.take 2, false), (l.drop 2, true)], []) := by
  obtain ⟨o, h1, h2⟩ := fits_out (ps := [.sz 2, .nm]) rfl h
  rw [h2]
  simp only [cuts] at h1
  cases hc0 : (Pt.sz 2).cut l with
  | none => rw [hc0] at h1; cases h1
  | some m =>
    rw [hc0] at h1
    have hm : m = 2 := by simp only [Pt.cut] at hc0; split at hc0 <;> cases hc0; rfl
    subst hm
    simp only [] at h1
    cases hc : Pt.nm.cut (l.drop 2) with
    | none => rw [hc] at h1; cases h1
    | some n =>
      rw [hc] at h1
      simp only [Option.map_some, Option.some.injEq, Prod.mk.injEq] at h1
      obtain ⟨rfl, h3⟩ := h1
      rw [cut_all hc h3]; rfl
theorem out_a {l : Bs} (h : fitsD 1 l = true) : l.length = 4 := by
  obtain ⟨o, h1, h2⟩ := fits_out (ps := [.sz 4]) rfl h
  simp only [cuts] at h1
  cases hc0 : (Pt.sz 4).cut l with
  | none => rw [hc0] at h1; cases h1
  | some m =>
    rw [hc0] at h1
    simp only [Pt.cut] at hc0
    split at hc0 <;> cases hc0
    simp only [Option.map_some, Option.some.injEq, Prod.mk.injEq, List.drop_eq_nil_iff] at h1
    omega
theorem out_soa {l : Bs} (h : fitsD 6 l = true) : ∃ a b c, outT 6 l = some ([(a, true), (b, true), (c, false)], []) ∧ l = a ++ b ++ c ∧ c.length = 20 := by
  obtain ⟨o, h1, h2⟩ := fits_out (ps := [.nm, .nm, .sz 20]) rfl h
  obtain ⟨q1, q2⟩ := cuts_sum _ _ _ _ h1
  simp only [cuts] at h1
  cases hc0 : Pt.nm.cut l with
  | none => rw [hc0] at h1; cases h1
  | some m =>
    rw [hc0] at h1
    simp only [] at h1
    cases hc1 : Pt.nm.cut (l.drop m) with
    | none => rw [hc1] at h1; cases h1
    | some k =>
      rw [hc1] at h1
      simp only [] at h1
      cases hc2 : (Pt.sz 20).cut ((l.drop m).drop k) with
      | none => rw [hc2] at h1; cases h1
      | some j =>
        rw [hc2] at h1
        simp only [Option.map_some, Option.some.injEq, Prod.mk.injEq] at h1
        obtain ⟨rfl, h3⟩ := h1
        have hle := cut_le hc2
        have hj : j = 20 := by simp only [Pt.cut] at hc2; split at hc2 <;> cases hc2; rfl
        refine ⟨_, _, _, h2, ?_, ?_⟩
        · simpa [List.append_assoc] using q2.symm
        · rw [List.length_take]; omega

/-- The name that data point at. -/
def tgtD (t : Int) (l : Bs) : Option Bs := if checkD t l = 0 then (if t = 2 ∨ t = 5 ∨ t = 12 then some l else if t = 15 then some (l.drop 2) else none) else none
def tgtV (x : Option Bs) : Value := .tuple #[str (x.getD []), .bool x.isSome]
theorem tgtV_plain (x : Option Bs) : plainV 8 (tgtV x) = true := by cases x <;> rfl

end Go.Proofs.YtjbcamcegnjnaaaGreat
/- DERIVED. Data: the document's form, texts, front. -/
namespace Go.Proofs.YtjbcamcegnjnaaaGreat
open Go Go.RowKit
noncomputable def tbF1 : Tb Tryz.prog 0 := tbOf mixed []
/-- A type's parts, as the document has them. -/
def formL (t : Int) : List Int := if t = 1 then [4] else if t = 28 then [16] else if t = 2 then [-1] else if t = 5 then [-1] else if t = 12 then [-1] else if t = 15 then [2, -1] else if t = 6 then [-1, -1, 20] else if t = 16 then [-2] else [-3]
def intV (i : Int) : Value := .int .i64 i
theorem intV_plain (l : List Int) : plainL (l.map intV) = true := by simp [plainL, plainV, intV]
def formOut (t : Int) (H : Tr AObj) (n : Nat) : Res := .ret (.slice (some ⟨n, 0, none⟩) (formL t).length (formL t).length) (H.set n (some (.cells ((formL t).map intV) 3))) (n + 1) []
/-- Where the name in front ends, or -1. -/
def frontI (l : Bs) : Int := match front l with | some k => (k : Int) | none => -1
end Go.Proofs.YtjbcamcegnjnaaaGreat
/- DERIVED. Data: the document's Parts. -/
namespace Go.Proofs.YtjbcamcegnjnaaaGreat
open Go Go.RowKit
/-- A part, as the document has it. -/
inductive Pr where
  | nm
  | rest
  | all
  | sz (k : Nat)
def Pr.i : Pr → Int
  | .nm => -1
  | .rest => -2
  | .all => -3
  | .sz k => (k : Int)
def Pr.cut (p : Pr) (l : Bs) : Option Nat :=
  match p with
  | .nm => front l
  | .rest => if texts l then some l.length else none
  | .all => some l.length
  | .sz k => if k ≤ l.length then some k else none
def cutsR : List Pr → Bs → Option (List Bs × Bs)
  | [], l => some ([], l)
  | p :: ps, l => match p.cut l with
    | none => none
    | some n => (cutsR ps (l.drop n)).map fun x => (l.take n :: x.1, x.2)
theorem cutsR_step (ps : List Pr) (i : Nat) (h : i < ps.length) (l : Bs) : cutsR (ps.drop i) l = match ps[i].cut l with
    | none => none
    | some n => (cutsR (ps.drop (i + 1)) (l.drop n)).map fun x => (l.take n :: x.1, x.2) := by
  rw [List.drop_eq_getElem_cons h]; rfl
noncomputable def tbF2 : Tb Tryz.prog 0 := tbOf mixed []
theorem strs_plain (l : List Bs) : plainL (l.map str) = true := by simp [plainL, plainV, str]
def paS (ps : List Pr) (x : Nat × List Bs × ByteArray) (f : Nat → Option Value) : Fs :=
  match x with
  | (i, acc, s) =>
    match acc with
    | [] => ⟨slots 7 [(1, .string s), (6, .slice (some ⟨0, 0, none⟩) ps.length ps.length), (7, .slice none 0 0), (8, .int .i64 i)] f, heap 1 [(0, .cells ((ps.map Pr.i).map intV) 3)], 1, [], []⟩
    | a :: l => ⟨slots 7 [(1, .string s), (6, .slice (some ⟨0, 0, none⟩) ps.length ps.length), (7, .slice (some ⟨1, 0, none⟩) (l.length + 1) U), (8, .int .i64 i)] f, heap 2 [(0, .cells ((ps.map Pr.i).map intV) 3), (1, .cells ((a :: l).map str) 9)], 2, [], []⟩
def paP (ps : List Pr) (s0 : ByteArray) (r : Res) : Prop := ∃ H m wr,
      (∃ out rest b, cutsR ps (bs s0) = some (out, rest) ∧ r = .ret (.tuple #[.slice (some ⟨b, 0, none⟩) out.length U, .bool rest.isEmpty]) H m wr ∧ H.get b = some (.cells (out.map str) 9) ∧ b < JJ) ∨
      (cutsR ps (bs s0) = none ∧ r = .ret (.tuple #[.slice none 0 0, .bool false]) H m wr)
end Go.Proofs.YtjbcamcegnjnaaaGreat
/- DERIVED. Data: the document's Parts, as a contract. -/
namespace Go.Proofs.YtjbcamcegnjnaaaGreat
open Go Go.RowKit
def prT (t : Int) : List Pr := if t = 1 then [.sz 4] else if t = 28 then [.sz 16] else if t = 2 then [.nm] else if t = 5 then [.nm] else if t = 12 then [.nm] else if t = 15 then [.sz 2, .nm] else if t = 6 then [.nm, .nm, .sz 20] else if t = 16 then [.rest] else [.all]
theorem prT_form (t : Int) : formL t = (prT t).map Pr.i ∧ 0 < (prT t).length ∧ (prT t).length < 1000 := by
  unfold formL prT
  split; · exact ⟨rfl, by decide, by decide⟩
  split; · exact ⟨rfl, by decide, by decide⟩
  split; · exact ⟨rfl, by decide, by decide⟩
  split; · exact ⟨rfl, by decide, by decide⟩
  split; · exact ⟨rfl, by decide, by decide⟩
  split; · exact ⟨rfl, by decide, by decide⟩
  split; · exact ⟨rfl, by decide, by decide⟩
  split; · exact ⟨rfl, by decide, by decide⟩
  exact ⟨rfl, by decide, by decide⟩
/-- What the document's Parts tells. -/
def rpO (t : Int) (l : Bs) : List Bs := match cutsR (prT t) l with | some x => x.1 | none => []
def rpR (t : Int) (l : Bs) : Bs := match cutsR (prT t) l with | some x => x.2 | none => []
def rpOut (t : Int) (s : ByteArray) (H : Tr AObj) (n : Nat) : Res := .ret (.tuple #[.slice (some ⟨n, 0, none⟩) (rpO t (bs s)).length U, .bool (rpR t (bs s)).isEmpty]) (H.set n (some (.cells ((rpO t (bs s)).map str) 9))) (n + 1) []
def Pt.pr : Pt → Pr
  | .nm => .nm
  | .rest => .rest
  | .sz k => .sz k
theorem Pt.pr_cut (p : Pt) (l : Bs) : p.pr.cut l = p.cut l := by cases p <;> rfl
/-- The document's parts are those of split. -/
theorem cutsR_known {t : Int} {ps : List Pt} (h : ptsT t = some ps) (l : Bs) : cutsR (prT t) l = (cuts ps l).map fun x => (x.1.map (·.1), x.2) := by
  have key : ∀ (ps : List Pt) (l : Bs), cutsR (ps.map Pt.pr) l = (cuts ps l).map fun x => (x.1.map (·.1), x.2) := by
    intro ps
    induction ps with
    | nil => intro l; rfl
    | cons p ps ih =>
      intro l
      simp only [List.map_cons, cutsR, cuts, Pt.pr_cut]
      cases p.cut l with
      | none => rfl
      | some n =>
        simp only []
        rw [ih, Option.map_map, Option.map_map]; rfl
  suffices hpr : prT t = ps.map Pt.pr by
    rw [hpr]; exact key ps l
  unfold ptsT at h
  unfold prT
  by_cases h1 : t = 1
  · subst h1; cases h; rfl
  by_cases h2 : t = 28
  · subst h2; cases h; rfl
  by_cases h3 : t = 2
  · subst h3; cases h; rfl
  by_cases h4 : t = 5
  · subst h4; cases h; rfl
  by_cases h5 : t = 12
  · subst h5; cases h; rfl
  by_cases h6 : t = 15
  · subst h6; cases h; rfl
  by_cases h7 : t = 6
  · subst h7; cases h; rfl
  by_cases h8 : t = 16
  · subst h8; cases h; rfl
  · exfalso
    rw [show (t == 1) = false by simpa using h1, show (t == 28) = false by simpa using h2, show (t == 2) = false by simpa using h3, show (t == 5) = false by simpa using h4, show (t == 12) = false by simpa using h5, show (t == 15) = false by simpa using h6, show (t == 6) = false by simpa using h7, show (t == 16) = false by simpa using h8] at h
    cases h
theorem prT_none {t : Int} (h : ptsT t = none) : prT t = [.all] := by
  unfold ptsT at h
  unfold prT
  by_cases h1 : t = 1
  · subst h1; cases h
  by_cases h2 : t = 28
  · subst h2; cases h
  by_cases h3 : t = 2
  · subst h3; cases h
  by_cases h4 : t = 5
  · subst h4; cases h
  by_cases h5 : t = 12
  · subst h5; cases h
  by_cases h6 : t = 15
  · subst h6; cases h
  by_cases h7 : t = 6
  · subst h7; cases h
  by_cases h8 : t = 16
  · subst h8; cases h
  · rw [if_neg h1, if_neg h2, if_neg h3, if_neg h4, if_neg h5, if_neg h6, if_neg h7, if_neg h8]
theorem fits_ref (t : Int) (l : Bs) : ((cutsR (prT t) l).isSome && (rpR t l).isEmpty) = fitsD t l := by
  cases hp : ptsT t with
  | none =>
    unfold fitsD rpR
    rw [hp, prT_none hp]
    simp [cutsR, Pr.cut]
  | some ps =>
    have e1 : outT t l = cuts ps l := by unfold outT; rw [hp]
    unfold fitsD rpR outR
    rw [hp, cutsR_known hp, e1]
    cases hc : cuts ps l with
    | none => rfl
    | some x => rfl
noncomputable def tbF3 : Tb Tryz.prog 0 := tbOf mixed []
/-- A function of a number and a string that was walked, the string of at most 100 million bytes. -/
def Ct.intStr8 (f : FuncId) (out : Int → ByteArray → Value) (hp : ∀ t s, plainV 8 (out t s) = true) (ok : ∀ t s, (bs s).length ≤ 100000000 → ∃ H m wr, FnS Tryz.prog 0 f [.int .i64 t, .string s] .e 0 (.ret (out t s) H m wr)) : Ct Tryz.prog 0 where
  f := f
  res l H n := match l with | [.int .i64 t, .string s] => bif s.data.size.ble 100000000 then .ret (out t s) H n [] else .bad "long" [] | _ => .bad "arguments" []
  ok l H n := by
    split
    · rename_i t s
      cases hs : s.data.size.ble 100000000 with
      | false => trivial
      | true => obtain ⟨_, _, _, h⟩ := ok t s (by rw [← bs_size]; exact Nat.le_of_ble_eq_true hs); exact callOK_pure h rfl (hp t s) H n
    · trivial
  ck l H n K := match l with | [.int .i64 t, .string s] => s.data.size.ble 100000000 = true ∧ K (.ret (out t s) H n []) | _ => False
  imp l H n K h := by
    split at h
    · obtain ⟨h1, h2⟩ := h
      simp only [h1, cond_true]; exact h2
    · exact h.elim
end Go.Proofs.YtjbcamcegnjnaaaGreat
/- DERIVED. Data: what fits, by the document. -/
namespace Go.Proofs.YtjbcamcegnjnaaaGreat
open Go Go.RowKit
theorem front_len {l : Bs} {k : Nat} (h : front l = some k) : k ≤ 255 := by
  have hle := front_le h
  unfold front at h
  split at h
  · rename_i j hj
    split at h
    · rename_i hl
      cases h
      have := labels_len hl
      rw [List.length_take] at this; omega
    · cases h
  · cases h
def Pt.small : Pt → Bool
  | .nm => true
  | .rest => false
  | .sz k => k.ble 255
theorem cuts_len : ∀ (ps : List Pt) (l : Bs) (o : List (Bs × Bool)) (r : Bs), ps.all Pt.small = true → cuts ps l = some (o, r) → l.length ≤ 255 * ps.length + r.length
  | [], l, o, r, _, h => by simp only [cuts, Option.some.injEq, Prod.mk.injEq] at h; obtain ⟨_, rfl⟩ := h; omega
  | p :: ps, l, o, r, ha, h => by
    simp only [List.all_cons, Bool.and_eq_true] at ha
    simp only [cuts] at h
    cases hc : p.cut l with
    | none => rw [hc] at h; cases h
    | some n =>
      rw [hc] at h
      simp only [] at h
      obtain ⟨⟨o', r'⟩, h1, h2⟩ := Option.map_eq_some_iff.1 h
      simp only [Prod.mk.injEq] at h2
      obtain ⟨_, rfl⟩ := h2
      have ih := cuts_len ps _ _ _ ha.2 h1
      have hn : n ≤ 255 := by
        cases p with
        | nm => exact front_len hc
        | rest => cases ha.1
        | sz k =>
          simp only [Pt.cut] at hc
          split at hc <;> cases hc
          exact Nat.le_of_ble_eq_true ha.1
      simp only [List.length_cons, List.length_drop] at ih ⊢
      omega
theorem fits_len {t : Int} {ps : List Pt} {l : Bs} (hp : ptsT t = some ps) (hs : ps.all Pt.small = true) (hl : ps.length ≤ 3) (h : fitsD t l = true) : l.length ≤ 765 := by
  obtain ⟨o, h1, _⟩ := fits_out hp h
  have := cuts_len ps l o [] hs h1
  simp only [List.length_nil] at this
  omega
theorem check_fits {t : Int} {ps : List Pt} {l : Bs} (hp : ptsT t = some ps) (hs : ps.all Pt.small = true) (hl : ps.length ≤ 3) (h0 : 0 ≤ t ∧ t ≤ 65535) (h : fitsD t l = true) : checkD t l = 0 := by
  have := fits_len hp hs hl h
  unfold checkD
  rw [if_neg (by omega), if_neg (by omega), h]; rfl
theorem check_not {t : Int} {l : Bs} (h : fitsD t l = false) : checkD t l ≠ 0 := fun e => by
  rw [(check_zero e).2.2.2] at h; cases h
theorem fits_no {t : Int} {l : Bs} (h : (cutsR (prT t) l).isSome = false) : fitsD t l = false := by rw [← fits_ref, h]; rfl
theorem fits_rest {t : Int} {l : Bs} (h : (rpR t l).isEmpty = false) : fitsD t l = false := by rw [← fits_ref, h, Bool.and_false]
theorem fits_yes {t : Int} {l : Bs} (h : (cutsR (prT t) l).isSome = true) (h2 : (rpR t l).isEmpty = true) : fitsD t l = true := by rw [← fits_ref, h, h2]; rfl
theorem rpO_of {t : Int} {ps : List Pt} {l : Bs} {o : List (Bs × Bool)} {r : Bs} (hp : ptsT t = some ps) (h : outT t l = some (o, r)) : rpO t l = o.map (·.1) := by
  unfold rpO
  unfold outT at h
  rw [hp] at h
  have h : cuts ps l = some (o, r) := h
  rw [cutsR_known hp, h]; rfl
theorem size8 {s : ByteArray} (h : (bs s).length ≤ 100000000) : s.data.size.ble 100000000 = true := by rw [bs_size]; exact Nat.ble_eq_true_of_le h

noncomputable def tbF5 : Tb Tryz.prog 0 := tbOf mixed []
end Go.Proofs.YtjbcamcegnjnaaaGreat
/- DERIVED. Data: the document's Lower. -/
namespace Go.Proofs.YtjbcamcegnjnaaaGreat
open Go Go.RowKit
def lowI (x : Int × Bs) : Bs := if x.1 = -1 then lower x.2 else x.2
theorem lowI_len (x : Int × Bs) : (lowI x).length = x.2.length := by unfold lowI; split <;> simp [lower_len]
def sumZ (Z : List (Int × Bs)) : Nat := (Z.flatMap fun p => p.2).length
theorem sumZ_at (Z : List (Int × Bs)) (p : Int × Bs) (h : p ∈ Z) : p.2.length ≤ sumZ Z := by
  unfold sumZ
  induction Z with
  | nil => cases h
  | cons q r ih =>
    rw [List.flatMap_cons, List.length_append]
    rcases List.mem_cons.1 h with e | e
    · rw [e]; omega
    · have := ih e; omega
theorem lowI_sum (Z : List (Int × Bs)) (i : Nat) : ((Z.take i).flatMap lowI).length ≤ sumZ Z := by
  unfold sumZ
  induction Z generalizing i with
  | nil => simp
  | cons p r ih =>
    cases i with
    | zero => simp
    | succ i =>
      have := ih i
      simp only [List.take_succ_cons, List.flatMap_cons, List.length_append, lowI_len]; omega
theorem lowI_take (Z : List (Int × Bs)) (i : Nat) (h : i < Z.length) : (Z.take (i + 1)).flatMap lowI = (Z.take i).flatMap lowI ++ lowI Z[i] := by
  rw [List.take_succ_eq_append_getElem h, List.flatMap_append]; simp only [List.flatMap_cons, List.flatMap_nil, List.append_nil]
def zi (x : Int × Bs) : Value := intV x.1
def zs (x : Int × Bs) : Value := str x.2
theorem zi_plain (l : List (Int × Bs)) : plainL (l.map zi) = true := by simp [plainL, plainV, zi, intV]
theorem zs_plain (l : List (Int × Bs)) : plainL (l.map zs) = true := by simp [plainL, plainV, zs, str]
def rlS (Z : List (Int × Bs)) (x : Nat × ByteArray) (f : Nat → Option Value) : Fs :=
  ⟨slots 7 [(5, .slice (some ⟨0, 0, none⟩) Z.length Z.length), (6, .slice (some ⟨1, 0, none⟩) Z.length U), (8, .string x.2), (9, .int .i64 x.1)] f, heap 2 [(0, .cells (Z.map zi) 3), (1, .cells (Z.map zs) 9)], 2, [], []⟩
theorem zip_low : ∀ (ps : List Pt) (l : Bs) (o : List (Bs × Bool)) (r : Bs), cuts ps l = some (o, r) → (((ps.map Pt.pr).map Pr.i).zip (o.map (·.1))).flatMap lowI = o.flatMap lowP
  | [], l, o, r, h => by simp only [cuts, Option.some.injEq, Prod.mk.injEq] at h; obtain ⟨rfl, _⟩ := h; rfl
  | p :: ps, l, o, r, h => by
    simp only [cuts] at h
    cases hc : p.cut l with
    | none => rw [hc] at h; cases h
    | some n =>
      rw [hc] at h
      simp only [] at h
      obtain ⟨⟨o', r'⟩, h1, h2⟩ := Option.map_eq_some_iff.1 h
      simp only [Prod.mk.injEq] at h2
      obtain ⟨rfl, rfl⟩ := h2
      have ih := zip_low ps _ _ _ h1
      simp only [List.map_cons, List.zip_cons_cons, List.flatMap_cons, ih]
      congr 1
      unfold lowI lowP
      cases p with
      | nm => rfl
      | rest => rfl
      | sz k =>
        have hk : ¬ (Pr.sz k).i = -1 := by show ¬ ((k : Nat) : Int) = -1; omega
        exact (if_neg hk).trans rfl
theorem prT_some {t : Int} {ps : List Pt} (h : ptsT t = some ps) : prT t = ps.map Pt.pr := by
  unfold ptsT at h
  unfold prT
  by_cases h1 : t = 1
  · subst h1; cases h; rfl
  by_cases h2 : t = 28
  · subst h2; cases h; rfl
  by_cases h3 : t = 2
  · subst h3; cases h; rfl
  by_cases h4 : t = 5
  · subst h4; cases h; rfl
  by_cases h5 : t = 12
  · subst h5; cases h; rfl
  by_cases h6 : t = 15
  · subst h6; cases h; rfl
  by_cases h7 : t = 6
  · subst h7; cases h; rfl
  by_cases h8 : t = 16
  · subst h8; cases h; rfl
  · exfalso
    rw [show (t == 1) = false by simpa using h1, show (t == 28) = false by simpa using h2, show (t == 2) = false by simpa using h3, show (t == 5) = false by simpa using h4, show (t == 12) = false by simpa using h5, show (t == 15) = false by simpa using h6, show (t == 6) = false by simpa using h7, show (t == 16) = false by simpa using h8] at h
    cases h
/-- What is known of a type's parts. -/
theorem ptsT_case {t : Int} {ps : List Pt} (h : ptsT t = some ps) : (0 ≤ t ∧ t ≤ 65535) ∧ ((ps.all Pt.small = true ∧ ps.length ≤ 3) ∨ ps = [.rest]) := by
  unfold ptsT at h
  by_cases h1 : t = 1
  · subst h1; cases h; exact ⟨by decide, .inl ⟨rfl, by decide⟩⟩
  by_cases h2 : t = 28
  · subst h2; cases h; exact ⟨by decide, .inl ⟨rfl, by decide⟩⟩
  by_cases h3 : t = 2
  · subst h3; cases h; exact ⟨by decide, .inl ⟨rfl, by decide⟩⟩
  by_cases h4 : t = 5
  · subst h4; cases h; exact ⟨by decide, .inl ⟨rfl, by decide⟩⟩
  by_cases h5 : t = 12
  · subst h5; cases h; exact ⟨by decide, .inl ⟨rfl, by decide⟩⟩
  by_cases h6 : t = 15
  · subst h6; cases h; exact ⟨by decide, .inl ⟨rfl, by decide⟩⟩
  by_cases h7 : t = 6
  · subst h7; cases h; exact ⟨by decide, .inl ⟨rfl, by decide⟩⟩
  by_cases h8 : t = 16
  · subst h8; cases h; exact ⟨by decide, .inr rfl⟩
  · exfalso
    rw [show (t == 1) = false by simpa using h1, show (t == 28) = false by simpa using h2, show (t == 2) = false by simpa using h3, show (t == 5) = false by simpa using h4, show (t == 12) = false by simpa using h5, show (t == 15) = false by simpa using h6, show (t == 6) = false by simpa using h7, show (t == 16) = false by simpa using h8] at h
    cases h
/-- Where Check says no, Lower leaves data as they are. -/
theorem lower_no {t : Int} {l : Bs} (h : checkD t l ≠ 0) : lowerD t l = l := by
  unfold lowerD
  cases hp : ptsT t with
  | none => rfl
  | some ps =>
    simp only [Option.isSome_some, cond_true]
    cases hf : fitsD t l with
    | false =>
      unfold fitsD at hf
      rw [hp] at hf
      simp only [Option.isSome_some, cond_true] at hf
      rw [hf]; rfl
    | true =>
      obtain ⟨hr, ⟨h1, h2⟩ | h1⟩ := ptsT_case hp
      · exact absurd (check_fits hp h1 h2 hr hf) h
      · subst h1
        obtain ⟨o, q1, q2⟩ := fits_out hp hf
        have e1 : outP t l = o := by unfold outP; rw [q2]
        rw [q2, e1]
        obtain ⟨w1, w2⟩ := cuts_sum _ _ _ _ q1
        simp only [cuts] at q1
        cases hc : Pt.rest.cut l with
        | none => rw [hc] at q1; cases q1
        | some n =>
          rw [hc] at q1
          simp only [Option.map_some, Option.some.injEq, Prod.mk.injEq] at q1
          obtain ⟨rfl, _⟩ := q1
          have hb : (outR t l).isEmpty = true := by unfold outR; rw [q2]; rfl
          rw [hb]
          simpa [lowP, Pt.isName] using w2
theorem rlower_eq {t : Int} {l : Bs} (h1 : (cutsR (prT t) l).isSome = true) (h2 : (rpR t l).isEmpty = true) : ((formL t).zip (rpO t l)).flatMap lowI = lowerD t l ∧ (formL t).length = (rpO t l).length ∧ (rpO t l).flatten = l := by
  have hf := fits_yes h1 h2
  unfold lowerD
  cases hp : ptsT t with
  | none =>
    have e : rpO t l = [l] := by unfold rpO; rw [prT_none hp]; simp [cutsR, Pr.cut]
    have e2 : formL t = [-3] := by rw [(prT_form t).1, prT_none hp]; rfl
    rw [e, e2]
    exact ⟨by simp [lowI], rfl, by simp⟩
  | some ps =>
    obtain ⟨o, q1, q2⟩ := fits_out hp hf
    have e1 : outP t l = o := by unfold outP; rw [q2]
    have e2 : (outR t l).isEmpty = true := by unfold outR; rw [q2]; rfl
    obtain ⟨w1, w2⟩ := cuts_sum _ _ _ _ q1
    rw [rpO_of hp q2, (prT_form t).1, prT_some hp, zip_low ps l o [] q1]
    simp only [Option.isSome_some, cond_true, e1, e2, q2, Bool.and_self]
    refine ⟨trivial, by simp [w1], ?_⟩
    rw [List.append_nil] at w2
    rw [← List.flatMap_def]; exact w2

end Go.Proofs.YtjbcamcegnjnaaaGreat
/- DERIVED. What is known of the document's names, as contracts. -/
namespace Go.Proofs.YtjbcamcegnjnaaaGreat
open Go Go.RowKit
end Go.Proofs.YtjbcamcegnjnaaaGreat
/- DERIVED. Records: numbers that may be. -/
namespace Go.Proofs.YtjbcamcegnjnaaaGreat
open Go Go.RowKit
noncomputable def tbR1 : Tb Tryz.prog 0 := tbOf mixed []
def numB (n m : Int) : Bool := decide (0 ≤ n ∧ n ≤ m)
set_option maxRecDepth 100000 in
theorem number_fn (n m : Int) : ∃ r, FnS Tryz.prog 0 123 [.int .i64 n, .int .i64 m] .e 0 r ∧ ∃ H k wr, r = .ret (.bool (numB n m)) H k wr := by
  refine fn_sx mixed tbR1 [] Tryz.func123 (c := bodyOf Tryz.f123) (by kernel_rfl) ?_
  unfold numB
  refine ifK (fun h1 => ?_) (fun h1 => ?_)
  · have h1 := of_decide_eq_true h1
    rw [show decide (0 ≤ n ∧ n ≤ m) = decide (n ≤ m) by rw [decide_eq_decide]; exact ⟨fun h => h.2, fun h => ⟨h1, h⟩⟩]
    exact ⟨_, _, _, rfl⟩
  · have h1 := of_decide_eq_false h1
    rw [show decide (0 ≤ n ∧ n ≤ m) = false by rw [decide_eq_false_iff_not]; exact fun h => h1 h.1]
    exact ⟨_, _, _, rfl⟩
/-- A function of plain data of one shape, as a contract. -/
def Ct.sh {X : Type} (f : FuncId) (mt : List Value → Option X) (args : X → List Value) (hm : ∀ l x, mt l = some x → l = args x) (pre : X → Bool) (out : X → Value) (ha : ∀ x, plainL (args x) = true) (hp : ∀ x, plainV 8 (out x) = true) (ok : ∀ x, pre x = true → ∃ H m wr, FnS Tryz.prog 0 f (args x) .e 0 (.ret (out x) H m wr)) : Ct Tryz.prog 0 where
  f := f
  res l H n := match mt l with | some x => bif pre x then .ret (out x) H n [] else .bad "not such" [] | none => .bad "arguments" []
  ok l H n := by
    cases h : mt l with
    | none => trivial
    | some x =>
      cases hx : pre x with
      | false => simp only [hx]; trivial
      | true =>
        simp only [hx, cond_true]
        rw [hm l x h]
        obtain ⟨_, _, _, hF⟩ := ok x hx
        exact callOK_pure hF (ha x) (hp x) H n
  ck l H n K := match mt l with | some x => pre x = true ∧ K (.ret (out x) H n []) | none => False
  imp l H n K h := by
    cases hm : mt l with
    | none => rw [hm] at h; exact h.elim
    | some x =>
      rw [hm] at h
      obtain ⟨h1, h2⟩ := h
      simp only [h1, cond_true]; exact h2
def mtI2 : List Value → Option (Int × Int) | [.int .i64 a, .int .i64 b] => some (a, b) | _ => none
def mtI1 : List Value → Option Int | [.int .i64 a] => some a | _ => none
theorem mtI2_ok (l : List Value) (x : Int × Int) (h : mtI2 l = some x) : l = [.int .i64 x.1, .int .i64 x.2] := by
  unfold mtI2 at h; split at h <;> cases h; rfl
theorem mtI1_ok (l : List Value) (x : Int) (h : mtI1 l = some x) : l = [.int .i64 x] := by
  unfold mtI1 at h; split at h <;> cases h; rfl
/-- A function of numbers of which nothing is asked. -/
def Ct.i2 (f : FuncId) (out : Int → Int → Value) (hp : ∀ x y, plainV 8 (out x y) = true) (ok : ∀ x y, ∃ H m wr, FnS Tryz.prog 0 f [.int .i64 x, .int .i64 y] .e 0 (.ret (out x y) H m wr)) : Ct Tryz.prog 0 where
  f := f
  res l H n := match l with | [.int .i64 x, .int .i64 y] => .ret (out x y) H n [] | _ => .bad "arguments" []
  ok l H n := by
    split
    · rename_i x y
      obtain ⟨_, _, _, h⟩ := ok x y
      exact callOK_pure h rfl (hp x y) H n
    · trivial
  ck l H n K := match l with | [.int .i64 x, .int .i64 y] => K (.ret (out x y) H n []) | _ => False
  imp l H n K h := by
    split at h
    · exact h
    · exact h.elim
def Ct.i1 (f : FuncId) (out : Int → Value) (hp : ∀ x, plainV 8 (out x) = true) (ok : ∀ x, ∃ H m wr, FnS Tryz.prog 0 f [.int .i64 x] .e 0 (.ret (out x) H m wr)) : Ct Tryz.prog 0 where
  f := f
  res l H n := match l with | [.int .i64 x] => .ret (out x) H n [] | _ => .bad "arguments" []
  ok l H n := by
    split
    · rename_i x
      obtain ⟨_, _, _, h⟩ := ok x
      exact callOK_pure h rfl (hp x) H n
    · trivial
  ck l H n K := match l with | [.int .i64 x] => K (.ret (out x) H n []) | _ => False
  imp l H n K h := by
    split at h
    · exact h
    · exact h.elim
def ct_number : Ct Tryz.prog 0 := Ct.i2 123 (fun x y => .bool (numB x y)) (fun _ _ => rfl) (fun x y => by obtain ⟨r, h, H, m, wr, rfl⟩ := number_fn x y; exact ⟨H, m, wr, h⟩)
/-- A record, its parts. -/
structure RcX where
  n : ByteArray
  t : Int
  c : Int
  ttl : Int
  d : ByteArray
def RcX.v (x : RcX) : Value := .agg #[.string x.n, .int .i64 x.t, .int .i64 x.c, .int .i64 x.ttl, .string x.d]
def RcX.ok (x : RcX) : Bool := x.n.data.size.ble 100000000 && x.d.data.size.ble 100000000
noncomputable def tbR2 : Tb Tryz.prog 0 := tbOf mixed [ct_number, ct_check, ct_rdcheck, ct_lower]
end Go.Proofs.YtjbcamcegnjnaaaGreat
/- DERIVED. Records: Check, lower. -/
namespace Go.Proofs.YtjbcamcegnjnaaaGreat
open Go Go.RowKit
def mtR : List Value → Option RcX
  | [.agg ⟨[.string n, .int .i64 t, .int .i64 c, .int .i64 ttl, .string d]⟩] => some ⟨n, t, c, ttl, d⟩
  | _ => none
def mtRR : List Value → Option (RcX × RcX)
  | [.agg ⟨[.string n, .int .i64 t, .int .i64 c, .int .i64 ttl, .string d]⟩, .agg ⟨[.string n', .int .i64 t', .int .i64 c', .int .i64 ttl', .string d']⟩] => some (⟨n, t, c, ttl, d⟩, ⟨n', t', c', ttl', d'⟩)
  | _ => none
theorem mtR_ok (l : List Value) (x : RcX) (h : mtR l = some x) : l = [x.v] := by
  unfold mtR at h; split at h <;> cases h; rfl
theorem mtRR_ok (l : List Value) (x : RcX × RcX) (h : mtRR l = some x) : l = [x.1.v, x.2.v] := by
  unfold mtRR at h; split at h <;> cases h; rfl
theorem RcX.ok1 {x : RcX} (h : x.ok = true) : (bs x.n).length ≤ 100000000 ∧ (bs x.d).length ≤ 100000000 := by
  unfold RcX.ok at h
  simp only [Bool.and_eq_true] at h
  rw [← bs_size, ← bs_size]
  exact ⟨Nat.le_of_ble_eq_true h.1, Nat.le_of_ble_eq_true h.2⟩
theorem size8' {s : ByteArray} (h : (bs s).length ≤ 100000000) : s.data.size.ble 100000000 = true := by rw [bs_size]; exact Nat.ble_eq_true_of_le h
/-- What Check tells of a record. -/
def recC (x : RcX) : Int := if (labels (bs x.n)).2 ≠ 0 then (labels (bs x.n)).2 else if numB x.t 65535 && numB x.c 65535 && numB x.ttl 2147483647 then checkD x.t (bs x.d) else 5
set_option maxRecDepth 100000 in
theorem rcheckR_fn (x : RcX) (hx : x.ok = true) : ∃ r, FnS Tryz.prog 0 120 [x.v] .e 0 r ∧ ∃ H k wr, r = .ret (.int .i64 (recC x)) H k wr := by
  obtain ⟨hn, hd⟩ := RcX.ok1 hx
  refine fn_sx mixed tbR2 [] Tryz.func120 (c := bodyOf Tryz.f120) (by kernel_rfl) ?_
  unfold recC
  refine And.intro (shortB_of (by omega)) ?_
  refine ifK (fun h1 => ?_) (fun h1 => ?_)
  · rw [if_pos (by simpa using h1)]; exact ⟨_, _, _, rfl⟩
  rw [if_neg (by simpa using h1)]
  refine ifK (fun h2 => ?_) (fun h2 => ?_)
  · rw [show numB x.t 65535 = false by simpa using h2]; exact ⟨_, _, _, rfl⟩
  rw [show numB x.t 65535 = true by simpa using h2]
  refine ifK (fun h3 => ?_) (fun h3 => ?_)
  · rw [show numB x.c 65535 = false by simpa using h3]; exact ⟨_, _, _, rfl⟩
  rw [show numB x.c 65535 = true by simpa using h3]
  refine ifK (fun h4 => ?_) (fun h4 => ?_)
  · rw [show numB x.ttl 2147483647 = false by simpa using h4]; exact ⟨_, _, _, rfl⟩
  rw [show numB x.ttl 2147483647 = true by simpa using h4]
  refine And.intro (shortB_of (by omega)) ?_
  exact ⟨_, _, _, rfl⟩
/-- A record in lower form. -/
def RcX.low (x : RcX) : RcX := ⟨⟨(lower (bs x.n)).toArray⟩, x.t, x.c, 0, ⟨(lowerD x.t (bs x.d)).toArray⟩⟩
def ct_recCheck : Ct Tryz.prog 0 := Ct.sh 120 mtR (fun x => [x.v]) mtR_ok RcX.ok (fun x => .int .i64 (recC x)) (fun _ => rfl) (fun _ => rfl) (fun x hx => by obtain ⟨r, h, H, m, wr, rfl⟩ := rcheckR_fn x hx; exact ⟨H, m, wr, h⟩)
noncomputable def tbR3 : Tb Tryz.prog 0 := tbOf mixed [ct_recCheck]
end Go.Proofs.YtjbcamcegnjnaaaGreat
/- DERIVED. Records: Same. -/
namespace Go.Proofs.YtjbcamcegnjnaaaGreat
open Go Go.RowKit
def lowEq (x y : RcX) : Bool := x.low.n.data.toList == y.low.n.data.toList && (x.low.t == y.low.t && (x.low.c == y.low.c && (x.low.ttl == y.low.ttl && (x.low.d.data.toList == y.low.d.data.toList && true))))
/-- Are two records the same? -/
def sameR (x y : RcX) : Bool := (recC x == 0) && ((recC y == 0) && lowEq x y)
theorem recC_zero {x : RcX} (h : recC x = 0) : (labels (bs x.n)).2 = 0 ∧ numB x.t 65535 = true ∧ numB x.c 65535 = true ∧ numB x.ttl 2147483647 = true ∧ checkD x.t (bs x.d) = 0 := by
  unfold recC at h
  split at h
  · rename_i h1; exact absurd h h1
  · rename_i h1
    split at h
    · rename_i h2
      simp only [Bool.and_eq_true] at h2
      exact ⟨by simpa using h1, h2.1.1, h2.1.2, h2.2, h⟩
    · cases h
theorem low_n (x : RcX) : x.low.n.data.toList = lower (bs x.n) := by simp [RcX.low]
theorem low_d (x : RcX) : x.low.d.data.toList = lowerD x.t (bs x.d) := by simp [RcX.low]
theorem lowEq_iff (x y : RcX) : lowEq x y = true ↔ lower (bs x.n) = lower (bs y.n) ∧ x.t = y.t ∧ x.c = y.c ∧ lowerD x.t (bs x.d) = lowerD y.t (bs y.d) := by
  unfold lowEq
  rw [low_n, low_n, low_d, low_d]
  simp only [Bool.and_eq_true, beq_iff_eq, Bool.and_true]
  exact ⟨fun ⟨a, b, c, _, d⟩ => ⟨a, b, c, d⟩, fun ⟨a, b, c, d⟩ => ⟨a, b, c, rfl, d⟩⟩
def okRR (x : RcX × RcX) : Bool := x.1.ok && x.2.ok
/-- How records lie. -/
def RcX.g (x : RcX) : List Value := [.string x.n, .int .i64 x.t, .int .i64 x.c, .int .i64 x.ttl, .string x.d]
def layR : Lay RcX where
  g := RcX.g
  k := 5
  t := 66
  len _ := rfl
  pos := by decide
  plain _ := rfl
  inj x y h := by
    obtain ⟨n, t, c, l, d⟩ := x
    obtain ⟨n', t', c', l', d'⟩ := y
    simp only [RcX.g, List.cons.injEq, Value.string.injEq, Value.int.injEq, true_and, and_true] at h
    obtain ⟨rfl, rfl, rfl, rfl, rfl⟩ := h; rfl
/-- Is a record big? -/
def bigR (n : Int) (x : RcX) : Bool := decide ((x.n.data.size : Int) > n) || decide ((x.d.data.size : Int) > n)
noncomputable def tbR4 : Tb Tryz.prog 0 := tbOf mixed []
end Go.Proofs.YtjbcamcegnjnaaaGreat
/- DERIVED. Records: are some big? -/
namespace Go.Proofs.YtjbcamcegnjnaaaGreat
open Go Go.RowKit
def bigS (a b : List Value) (l : List RcX) (c : Nat) (n : Int) (i : Nat) (f : Nat → Option Value) : Fs := ⟨slots 6 [(0, .slice (some ⟨0, a.length, none⟩) l.length c), (1, .int .i64 n), (5, .int .i64 i)] f, heap 1 [(0, .win (a ++ l.flatMap layR.g ++ b) layR.k)], 1, [], []⟩
set_option maxRecDepth 100000 in
theorem bigRecs_fn (a b : List Value) (l : List RcX) (c : Nat) (n : Int) (ha : plainL a = true) (hb : plainL b = true) (hl : l.length ≤ 9223372036854775807) : ∃ r, FnS Tryz.prog 0 117 [.slice (some ⟨0, a.length, none⟩) l.length c, .int .i64 n] (heap 1 [(0, .win (a ++ l.flatMap layR.g ++ b) layR.k)]) 1 r ∧ ∃ H m wr, r = .ret (.bool (l.any (bigR n))) H m wr ∧ ∀ k ∈ wr, 1 ≤ k := by
  have hplain : plainL (a ++ l.flatMap layR.g ++ b) = true := by rw [plainL_append, plainL_append, ha, hb, flat_plain layR.g layR.plain]; rfl
  have hsz : (Tryz.prog.types[66]).size = 5 := by kernel_rfl
  refine fn_sx mixed tbR4 [0] Tryz.func117 (c := bodyOf Tryz.f117) (by kernel_rfl) ?_
  refine loop_goX (bigS a b l c n) (fun i => l.length - i) (fun i => i ≤ l.length ∧ l.any (bigR n) = (l.drop i).any (bigR n)) 0 ⟨Nat.zero_le _, rfl⟩ (rc_slots [] rfl rfl rfl (fun l e => by cases e) (by decide) (by decide) rfl rfl (wr_of rfl) ⟨⟨_, rfl, .sl _ _ _ _ _ rfl⟩, ⟨_, rfl, .int _ _⟩, ⟨_, rfl, .int _ _⟩, trivial⟩ ⟨⟨by decide, _, rfl, .sameW hplain⟩, trivial⟩ .nil) ?_
  rintro i f ⟨hi, heq⟩
  refine sx_ok tbR4 [0] 1 _ none mixed _ _ _ ?_
  refine ifK (fun h1 => ?_) (fun h1 => ?_)
  · have h1 : i < l.length := by have := of_decide_eq_true h1; omega
    have hst : (l.drop i).any (bigR n) = (bigR n l[i] || (l.drop (i + 1)).any (bigR n)) := by rw [List.drop_eq_getElem_cons h1]; rfl
    rw [hst] at heq
    have c0 := RdL.cell layR a b l i 0 h1 (by decide)
    have c4 := RdL.cell layR a b l i 4 h1 (by decide)
    refine ifK (fun _ => ?_) (fun h2 => absurd h2 (by simp [inI]; omega))
    refine Exists.intro l[i].n (And.intro (by rw [hsz, Int.toNat_natCast]; exact c0) ?_)
    refine ifK (fun h2 => ?_) (fun h2 => ?_)
    · have e : l.any (bigR n) = true := by rw [heq]; unfold bigR; rw [h2]; rfl
      refine And.intro rfl (rc_end (rc_slots [] rfl rfl rfl (fun l e => by cases e) (by decide) (by decide) rfl rfl (wr_of rfl) (d := 6) (d2 := 0) (lv := [(4, .bool true)]) (bs := []) (W := []) (m := 1) (df := []) ⟨⟨_, rfl, plain_rv 8 rfl⟩, trivial⟩ trivial .nil) (fun f => ?_))
      rw [e]; exact ⟨_, _, _, rfl, wr_ge rfl⟩
    · refine ifK (fun _ => ?_) (fun h3 => absurd h3 (by simp [inI]; omega))
      refine Exists.intro l[i].d (And.intro (by rw [hsz, Int.toNat_natCast]; exact c4) ?_)
      refine ifK (fun h3 => ?_) (fun h3 => ?_)
      · have e : l.any (bigR n) = true := by rw [heq]; unfold bigR; rw [h3]; simp
        refine And.intro rfl (rc_end (rc_slots [] rfl rfl rfl (fun l e => by cases e) (by decide) (by decide) rfl rfl (wr_of rfl) (d := 6) (d2 := 0) (lv := [(4, .bool true)]) (bs := []) (W := []) (m := 1) (df := []) ⟨⟨_, rfl, plain_rv 8 rfl⟩, trivial⟩ trivial .nil) (fun f => ?_))
        rw [e]; exact ⟨_, _, _, rfl, wr_ge rfl⟩
      · refine ⟨i + 1, ⟨h1, ?_⟩, by omega, rc_slots [] rfl rfl rfl (fun l e => by cases e) (by decide) (by decide) rfl rfl (wr_of rfl) ⟨⟨_, rfl, .sl _ _ _ _ _ rfl⟩, ⟨_, rfl, .int _ _⟩, slot_int rfl (by rw [wrapN (by omega) (by omega)]; omega), trivial⟩ ⟨⟨by decide, _, rfl, .sameW hplain⟩, trivial⟩ .nil⟩
        rw [heq]; unfold bigR; rw [h2, h3]; rfl
  · have h1 : ¬ i < l.length := by have := of_decide_eq_false h1; omega
    have e : l.any (bigR n) = false := by rw [heq, List.drop_eq_nil_of_le (by omega)]; rfl
    refine And.intro rfl (rc_end (rc_slots [] rfl rfl rfl (fun l e => by cases e) (by decide) (by decide) rfl rfl (wr_of rfl) (d := 6) (d2 := 0) (lv := []) (bs := []) (W := []) (m := 1) (df := []) trivial trivial .nil) (fun f => ?_))
    rw [e]; exact ⟨_, _, _, rfl, wr_ge rfl⟩
noncomputable def ct_bigRecs : Ct Tryz.prog 0 := CtR.rd1 layR 117 Int (fun n => [.int .i64 n]) (fun l n => .bool (l.any (bigR n))) (fun l _ => l.length ≤ 9223372036854775807) (fun _ => rfl) (fun _ _ => rfl) (fun y z h => by simpa using h) (by kernel_rfl)
  (fun c a b l n ha hb hl => by obtain ⟨r, hF, H, m, wr, rfl, hw⟩ := bigRecs_fn a b l c n ha hb hl; exact ⟨H, m, wr, hF, hw⟩)
end Go.Proofs.YtjbcamcegnjnaaaGreat
/- DERIVED. Messages as values: their parts, lists two at a time, contracts told apart by what is nil. -/
namespace Go.Proofs.YtjbcamcegnjnaaaGreat
open Go Go.RowKit
deriving instance DecidableEq for RcX
/-- A question, its parts. -/
structure QuX where
  n : ByteArray
  t : Int
  c : Int
  deriving DecidableEq
def QuX.v (x : QuX) : Value := .agg #[.string x.n, .int .i64 x.t, .int .i64 x.c]
def QuX.g (x : QuX) : List Value := [.string x.n, .int .i64 x.t, .int .i64 x.c]
def layQ : Lay QuX where
  g := QuX.g
  k := 3
  t := 39
  len _ := rfl
  pos := by decide
  plain _ := rfl
  inj x y h := by
    obtain ⟨n, t, c⟩ := x
    obtain ⟨n', t', c'⟩ := y
    simp only [QuX.g, List.cons.injEq, Value.string.injEq, Value.int.injEq, true_and, and_true] at h
    obtain ⟨rfl, rfl, rfl⟩ := h; rfl
/-- Contracts told apart by the arguments. -/
def Ct.alt {P : Program} {g0 : Nat} (p : List Value → Bool) (c d : Ct P g0) (h : d.f = c.f) : Ct P g0 where
  f := c.f
  res a H n := bif p a then c.res a H n else d.res a H n
  ok a H n := by
    cases hp : p a with
    | true => exact c.ok a H n
    | false => rw [← h]; exact d.ok a H n
  ck a H n K := bif p a then c.ck a H n K else d.ck a H n K
  imp a H n K hk := by
    cases hp : p a with
    | true => rw [hp] at hk; exact c.imp a H n K hk
    | false => rw [hp] at hk; exact d.imp a H n K hk
def isNil : Value → Bool
  | .slice none _ _ => true
  | _ => false
def nil0 : List Value → Bool
  | x :: _ => isNil x
  | _ => false
/-- A function that reads two lists. -/
noncomputable def CtR.rd2 {P : Program} {α β : Type} (L : Lay α) (M : Lay β) (f : FuncId) (Y : Type) (args : Y → List Value) (out : List α → List β → Y → Value) (pre : List α → List β → Y → Prop) (hp : ∀ y, plainL (args y) = true) (hv : ∀ x z y, plainV 8 (out x z y) = true) (inj : ∀ y z, args y = args z → y = z)
    (hz : (P.info? L.t).map (·.size) = some L.k) (hz2 : (P.info? M.t).map (·.size) = some M.k)
    (ok : ∀ (c1 c2 : Nat) (a1 b1 a2 b2 : List Value) (l1 : List α) (l2 : List β) (y : Y), plainL a1 = true → plainL b1 = true → plainL a2 = true → plainL b2 = true → pre l1 l2 y → ∃ H m wr, FnS P 0 f (.slice (some ⟨0, a1.length, none⟩) l1.length c1 :: .slice (some ⟨1, a2.length, none⟩) l2.length c2 :: args y) (heap 2 [(0, .win (a1 ++ l1.flatMap L.g ++ b1) L.k), (1, .win (a2 ++ l2.flatMap M.g ++ b2) M.k)]) 2 (.ret (out l1 l2 y) H m wr) ∧ ∀ k ∈ wr, 2 ≤ k) : Ct P 0 :=
  CtR.ct { f, X := RdL α × RdL β × Y, pre := fun x a H _ => a = x.1.sl :: x.2.1.sl :: args x.2.2 ∧ x.1.at L H ∧ x.2.1.at M H ∧ pre x.1.l x.2.1.l x.2.2, out := fun x H n => .ret (out x.1.l x.2.1.l x.2.2) H n [],
           ok := fun ⟨⟨b, c, a, l, z⟩, ⟨b', c', a', l', z'⟩, y⟩ as0 H m ⟨h1, h2, h3, h4⟩ => by
             subst h1
             obtain ⟨H', m', wr, hF, hw⟩ := ok c c' a z a' z' l l' y h2.2.1 h2.2.2 h3.2.1 h3.2.2 h4
             show CallOK P 0 f _ H m (.ret (out l l' y) H m [])
             obtain ⟨o1, e1, r1⟩ := h2.1.ro (P := P) (σ := caR [b, b']) (RdL.plain h2.2.1 h2.2.2) hz
             obtain ⟨o2, e2, r2⟩ := h3.1.ro (P := P) (σ := caR [b, b']) (RdL.plain h3.2.1 h3.2.2) hz2
             exact callOK_reads [b, b'] hF hw (dup_win (fun x hx => by simp only [List.mem_cons, List.not_mem_nil, or_false] at hx; rcases hx with rfl | rfl <;> trivial)) (.cons _ _ _ _ (.sl _ _ _ _ _ rfl) (.cons _ _ _ _ (.sl _ _ _ _ _ rfl) (plain_rl (hp y)))) (callB_of ⟨⟨b, o1, rfl, e1, r1⟩, ⟨b', o2, rfl, e2, r2⟩, trivial⟩) (hv _ _ _),
           uniq := fun ⟨x, x2, y⟩ ⟨z, z2, y'⟩ a H m ⟨h1, h2, h3, _⟩ ⟨k1, k2, k3, _⟩ => by
             rw [h1] at k1
             simp only [List.cons.injEq] at k1
             rw [RdL.uniq k1.1 h2 k2, RdL.uniq k1.2.1 h3 k3, inj _ _ k1.2.2] }
theorem seesB_of {H : Tr AObj} {b : Nat} {t : TypeId} {z : Nat} {C : List Value} (h : (H.get b).bind (AObj.as t z) = some C) : seesB H b t z C := h
/-- A message whose lists lie somewhere. -/
structure MsL where
  id : Int
  fl : Int
  q : RdL QuX
  an : RdL RcX
  ns : RdL RcX
  ar : RdL RcX
def MsL.v (m : MsL) : Value := .agg #[.int .i64 m.id, .int .i64 m.fl, m.q.sl, m.an.sl, m.ns.sl, m.ar.sl]
def MsL.at (m : MsL) (H : Tr AObj) : Prop := m.q.at layQ H ∧ m.an.at layR H ∧ m.ns.at layR H ∧ m.ar.at layR H
def MsL.heap (m : MsL) : Tr AObj := Go.Proofs.YtjbcamcegnjnaaaGreat.heap 3 [(0, .win (m.q.cells layQ) layQ.k), (1, .win (m.an.cells layR) layR.k), (2, .win (m.ns.cells layR) layR.k), (3, .win (m.ar.cells layR) layR.k)]
def MsL.own (m : MsL) : MsL := ⟨m.id, m.fl, { m.q with b := 0 }, { m.an with b := 1 }, { m.ns with b := 2 }, { m.ar with b := 3 }⟩
theorem layQ_size : (Tryz.prog.info? layQ.t).map (·.size) = some layQ.k := by kernel_rfl
theorem layR_size : (Tryz.prog.info? layR.t).map (·.size) = some layR.k := by kernel_rfl
theorem MsL.uniq {m m' : MsL} {H : Tr AObj} (h : m.v = m'.v) (h1 : m.at H) (h2 : m'.at H) : m = m' := by
  obtain ⟨id, fl, q, an, ns, ar⟩ := m
  obtain ⟨id', fl', q', an', ns', ar'⟩ := m'
  simp only [MsL.v, Value.agg.injEq, Array.mk.injEq, List.cons.injEq, Value.int.injEq, true_and, and_true] at h
  obtain ⟨rfl, rfl, a1, a2, a3, a4⟩ := h
  obtain ⟨b1, b2, b3, b4⟩ := h1
  obtain ⟨c1, c2, c3, c4⟩ := h2
  rw [RdL.uniq a1 b1 c1, RdL.uniq a2 b2 c2, RdL.uniq a3 b3 c3, RdL.uniq a4 b4 c4]
/-- A function that reads a message. -/
noncomputable def CtR.msg (f : FuncId) (Y : Type) (args : Y → List Value) (out : MsL → Y → Value) (pre : MsL → Y → Prop) (hp : ∀ y, plainL (args y) = true) (hv : ∀ x y, plainV 8 (out x y) = true) (inj : ∀ y z, args y = args z → y = z)
    (ok : ∀ (m : MsL) (y : Y), m.q.b = 0 → m.an.b = 1 → m.ns.b = 2 → m.ar.b = 3 → m.at m.heap → pre m y → ∃ H k wr, FnS Tryz.prog 0 f (m.v :: args y) m.heap 4 (.ret (out m y) H k wr) ∧ ∀ i ∈ wr, 4 ≤ i)
    (ho : ∀ m y, out m.own y = out m y) (hpo : ∀ m y, pre m y → pre m.own y) : Ct Tryz.prog 0 :=
  CtR.ct { f, X := MsL × Y, pre := fun x a H _ => a = x.1.v :: args x.2 ∧ x.1.at H ∧ pre x.1 x.2, out := fun x H n => .ret (out x.1 x.2) H n [],
           ok := fun ⟨m, y⟩ as0 H k ⟨h1, h2, h3⟩ => by
             subst h1
             obtain ⟨c1, c2, c3, c4⟩ := h2
             have hat : m.own.at m.own.heap := ⟨⟨seesB_of (by kernel_rfl), c1.2⟩, ⟨seesB_of (by kernel_rfl), c2.2⟩, ⟨seesB_of (by kernel_rfl), c3.2⟩, ⟨seesB_of (by kernel_rfl), c4.2⟩⟩
             obtain ⟨H', m', wr, hF, hw⟩ := ok m.own y rfl rfl rfl rfl hat (hpo _ _ h3)
             rw [ho] at hF
             show CallOK Tryz.prog 0 f _ H k (.ret (out m y) H k [])
             obtain ⟨o1, e1, r1⟩ := c1.1.ro (P := Tryz.prog) (σ := caR [m.q.b, m.an.b, m.ns.b, m.ar.b]) (RdL.plain c1.2.1 c1.2.2) layQ_size
             obtain ⟨o2, e2, r2⟩ := c2.1.ro (P := Tryz.prog) (σ := caR [m.q.b, m.an.b, m.ns.b, m.ar.b]) (RdL.plain c2.2.1 c2.2.2) layR_size
             obtain ⟨o3, e3, r3⟩ := c3.1.ro (P := Tryz.prog) (σ := caR [m.q.b, m.an.b, m.ns.b, m.ar.b]) (RdL.plain c3.2.1 c3.2.2) layR_size
             obtain ⟨o4, e4, r4⟩ := c4.1.ro (P := Tryz.prog) (σ := caR [m.q.b, m.an.b, m.ns.b, m.ar.b]) (RdL.plain c4.2.1 c4.2.2) layR_size
             exact callOK_reads [m.q.b, m.an.b, m.ns.b, m.ar.b] hF hw (dup_win (fun x hx => by simp only [List.mem_cons, List.not_mem_nil, or_false] at hx; rcases hx with rfl | rfl | rfl | rfl <;> trivial))
               (.cons _ _ _ _ (.agg _ _ (.cons _ _ _ _ (.int _ _) (.cons _ _ _ _ (.int _ _) (.cons _ _ _ _ (.sl _ _ _ _ _ rfl) (.cons _ _ _ _ (.sl _ _ _ _ _ rfl) (.cons _ _ _ _ (.sl _ _ _ _ _ rfl) (.cons _ _ _ _ (.sl _ _ _ _ _ rfl) .nil))))))) (plain_rl (hp y)))
               (callB_of ⟨⟨_, o1, rfl, e1, r1⟩, ⟨_, o2, rfl, e2, r2⟩, ⟨_, o3, rfl, e3, r3⟩, ⟨_, o4, rfl, e4, r4⟩, trivial⟩) (hv _ _),
           uniq := fun ⟨x, y⟩ ⟨x', y'⟩ a H m ⟨h1, h2, _⟩ ⟨k1, k2, _⟩ => by
             rw [h1] at k1
             simp only [List.cons.injEq] at k1
             rw [MsL.uniq k1.1 h2 k2, inj _ _ k1.2] }
end Go.Proofs.YtjbcamcegnjnaaaGreat
/- DERIVED. Messages: lists that are the same. -/
namespace Go.Proofs.YtjbcamcegnjnaaaGreat
open Go Go.RowKit
noncomputable def tbMs2 : Tb Tryz.prog 0 := tbOf mixed []
theorem take_step {α : Type} {l m : List α} {i : Nat} (h1 : i < l.length) (h2 : i < m.length) (h : l.take i = m.take i) (he : l[i] = m[i]) : l.take (i + 1) = m.take (i + 1) := by
  rw [List.take_succ_eq_append_getElem h1, List.take_succ_eq_append_getElem h2, h, he]
theorem get_of_eq {α : Type} {l m : List α} {i : Nat} (h1 : i < l.length) (h2 : i < m.length) (e : l = m) : l[i] = m[i] := by subst e; rfl
theorem toL_inj {a b : ByteArray} (h : a.data.toList = b.data.toList) : a = b := ByteArray.ext (Array.toList_inj.1 h)
theorem struct_q : structOk Tryz.prog 39 = true := by kernel_rfl
theorem struct_r : structOk Tryz.prog 66 = true := by kernel_rfl
def sameQS (a1 b1 a2 b2 : List Value) (l1 l2 : List QuX) (c1 c2 : Nat) (i : Nat) (f : Nat → Option Value) : Fs := ⟨slots 6 [(0, .slice (some ⟨0, a1.length, none⟩) l1.length c1), (1, .slice (some ⟨1, a2.length, none⟩) l2.length c2), (5, .int .i64 (i : Nat))] f, heap 2 [(0, .win (a1 ++ l1.flatMap layQ.g ++ b1) layQ.k), (1, .win (a2 ++ l2.flatMap layQ.g ++ b2) layQ.k)], 2, [], []⟩
def sameRsS (a1 b1 a2 b2 : List Value) (l1 l2 : List RcX) (c1 c2 : Nat) (i : Nat) (f : Nat → Option Value) : Fs := ⟨slots 6 [(0, .slice (some ⟨0, a1.length, none⟩) l1.length c1), (1, .slice (some ⟨1, a2.length, none⟩) l2.length c2), (5, .int .i64 (i : Nat))] f, heap 2 [(0, .win (a1 ++ l1.flatMap layR.g ++ b1) layR.k), (1, .win (a2 ++ l2.flatMap layR.g ++ b2) layR.k)], 2, [], []⟩
end Go.Proofs.YtjbcamcegnjnaaaGreat
/- DERIVED. Messages: is one big? -/
namespace Go.Proofs.YtjbcamcegnjnaaaGreat
open Go Go.RowKit
noncomputable def tbMs3 : Tb Tryz.prog 0 := tbOf mixed [ct_bigRecs]
def lenI (m : MsL) : Int := IntKind.i64.wrap (IntKind.i64.wrap (IntKind.i64.wrap ((m.q.l.length : Int) + (m.an.l.length : Int)) + (m.ns.l.length : Int)) + (m.ar.l.length : Int))
def bigQ (y : Int) (x : QuX) : Bool := decide ((x.n.data.size : Int) > y)
def bigMs (n y : Int) (m : MsL) : Bool := decide (lenI m > n) || (m.q.l.any (bigQ y) || (m.an.l.any (bigR y) || (m.ns.l.any (bigR y) || m.ar.l.any (bigR y))))
def MsL.fit (m : MsL) : Prop := m.q.l.length ≤ 9223372036854775807 ∧ m.an.l.length ≤ 9223372036854775807 ∧ m.ns.l.length ≤ 9223372036854775807 ∧ m.ar.l.length ≤ 9223372036854775807
def MsL.cellsV (m : MsL) : List Value := [.int .i64 m.id, .int .i64 m.fl, m.q.sl, m.an.sl, m.ns.sl, m.ar.sl]
/-- A message's windows, and what else lies there. -/
def msH (m : MsL) (bs : List (Nat × AObj)) : List (Nat × AObj) := (0, .win (m.q.cells layQ) layQ.k) :: (1, .win (m.an.cells layR) layR.k) :: (2, .win (m.ns.cells layR) layR.k) :: (3, .win (m.ar.cells layR) layR.k) :: bs
def bmS (m : MsL) (y : Int) (i : Nat) (f : Nat → Option Value) : Fs := ⟨slots 6 [(2, .int .i64 y), (3, .pointer (some ⟨4, 0, none⟩)), (7, .int .i64 (i : Nat))] f, heap 3 [(0, .win (m.q.cells layQ) layQ.k), (1, .win (m.an.cells layR) layR.k), (2, .win (m.ns.cells layR) layR.k), (3, .win (m.ar.cells layR) layR.k), (4, .cells [.int .i64 m.id, .int .i64 m.fl, m.q.sl, m.an.sl, m.ns.sl, m.ar.sl] 50)], 5, [], []⟩
/-- A message's box, named anew: the windows keep their names. -/
theorem msg_box {σ : Nat → Nat → Prop} {m : MsL} {t : TypeId} (h0 : σ m.q.b m.q.b := by rfl) (h1 : σ m.an.b m.an.b := by rfl) (h2 : σ m.ns.b m.ns.b := by rfl) (h3 : σ m.ar.b m.ar.b := by rfl) : RO Tryz.prog σ (.cells [.int .i64 m.id, .int .i64 m.fl, m.q.sl, m.an.sl, m.ns.sl, m.ar.sl] t) (.cells [.int .i64 m.id, .int .i64 m.fl, m.q.sl, m.an.sl, m.ns.sl, m.ar.sl] t) :=
  RO.cells [.int .i64 m.id, .int .i64 m.fl, m.q.sl, m.an.sl, m.ns.sl, m.ar.sl] [] _ t (.cons _ _ _ _ (.int _ _) (.cons _ _ _ _ (.int _ _) (.cons _ _ _ _ (.sl _ _ _ _ _ h0) (.cons _ _ _ _ (.sl _ _ _ _ _ h1) (.cons _ _ _ _ (.sl _ _ _ _ _ h2) (.cons _ _ _ _ (.sl _ _ _ _ _ h3) .nil))))))
set_option maxRecDepth 1000000 in
set_option maxHeartbeats 4000000 in
theorem bigMs_fn (m : MsL) (n y : Int) (b0 : m.q.b = 0) (b1 : m.an.b = 1) (b2 : m.ns.b = 2) (b3 : m.ar.b = 3) (hat : m.at m.heap) (hf : m.fit) :
    ∃ r, FnS Tryz.prog 0 61 [m.v, .int .i64 n, .int .i64 y] m.heap 4 r ∧ ∃ H k wr, r = .ret (.bool (bigMs n y m)) H k wr ∧ ∀ i ∈ wr, 4 ≤ i := by
  obtain ⟨id, fl, ⟨q0, qc, qp, ql, qz⟩, ⟨a0, ac, ap, al, az⟩, ⟨n0, nc, np, nl, nz⟩, ⟨r0, rc, rp, rl, rz⟩⟩ := m
  cases b0; cases b1; cases b2; cases b3
  obtain ⟨⟨_, hq1, hq2⟩, ⟨_, ha1, ha2⟩, ⟨_, hn1, hn2⟩, ⟨_, hr1, hr2⟩⟩ := hat
  obtain ⟨f1, f2, f3, f4⟩ := hf
  have f1 : ql.length ≤ 9223372036854775807 := f1
  have pq : plainL (RdL.cells layQ ⟨0, qc, qp, ql, qz⟩) = true := RdL.plain hq1 hq2
  have pa : plainL (RdL.cells layR ⟨1, ac, ap, al, az⟩) = true := RdL.plain ha1 ha2
  have pn : plainL (RdL.cells layR ⟨2, nc, np, nl, nz⟩) = true := RdL.plain hn1 hn2
  have pr : plainL (RdL.cells layR ⟨3, rc, rp, rl, rz⟩) = true := RdL.plain hr1 hr2
  have hsz : (Tryz.prog.types[39]).size = 3 := by kernel_rfl
  refine fn_sx mixed tbMs3 [0, 1, 2, 3] Tryz.func61 (c := bodyOf Tryz.f61) (by kernel_rfl) ?_
  unfold bigMs
  refine ifK (fun g => ?_) (fun g => ?_)
  · have e : decide (lenI ⟨id, fl, ⟨0, qc, qp, ql, qz⟩, ⟨1, ac, ap, al, az⟩, ⟨2, nc, np, nl, nz⟩, ⟨3, rc, rp, rl, rz⟩⟩ > n) = true := g
    rw [e]; exact ⟨_, _, _, rfl, wr_ge rfl⟩
  have e0 : decide (lenI ⟨id, fl, ⟨0, qc, qp, ql, qz⟩, ⟨1, ac, ap, al, az⟩, ⟨2, nc, np, nl, nz⟩, ⟨3, rc, rp, rl, rz⟩⟩ > n) = false := g
  rw [e0, Bool.false_or]
  refine loop_goX (bmS ⟨id, fl, ⟨0, qc, qp, ql, qz⟩, ⟨1, ac, ap, al, az⟩, ⟨2, nc, np, nl, nz⟩, ⟨3, rc, rp, rl, rz⟩⟩ y) (fun i => ql.length - i) (fun i => i ≤ ql.length ∧ ql.any (bigQ y) = (ql.drop i).any (bigQ y)) 0 ⟨Nat.zero_le _, rfl⟩
    (rc_slots [4] rfl rfl rfl (fun l e => by cases e) (by decide) (by decide) rfl rfl (wr_of rfl) ⟨⟨_, rfl, .int _ _⟩, ⟨_, rfl, .ptr _ _ _ rfl⟩, ⟨_, rfl, .int _ _⟩, trivial⟩ ⟨⟨by decide, _, rfl, .sameW (pq)⟩, ⟨by decide, _, rfl, .sameW (pa)⟩, ⟨by decide, _, rfl, .sameW (pn)⟩, ⟨by decide, _, rfl, .sameW (pr)⟩, ⟨by decide, _, rfl, msg_box⟩, trivial⟩ .nil) ?_
  rintro i f ⟨hi, heq⟩
  have hi : i ≤ ql.length := hi
  refine sx_ok tbMs3 [0, 1, 2, 3] 4 _ none mixed _ _ _ ?_
  refine ifK (fun h1 => ?_) (fun h1 => ?_)
  · have h1 : i < ql.length := by have h1 : ((i : Nat) : Int) < (ql.length : Int) := of_decide_eq_true h1; omega
    have hst : (ql.drop i).any (bigQ y) = (bigQ y ql[i] || (ql.drop (i + 1)).any (bigQ y)) := by rw [List.drop_eq_getElem_cons h1]; rfl
    rw [hst] at heq
    have c0 := RdL.cell layQ qp qz ql i 0 h1 (by decide)
    refine ifK (fun _ => ?_) (fun h2 => absurd h2 (by simp [inI]; omega))
    refine Exists.intro ql[i].n (And.intro (by rw [hsz, Int.toNat_natCast]; exact c0) ?_)
    refine ifK (fun h2 => ?_) (fun h2 => ?_)
    · have e : ql.any (bigQ y) = true := by rw [heq]; unfold bigQ; rw [h2]; rfl
      refine And.intro rfl (rc_end (rc_slots [] rfl rfl rfl (fun l e => by cases e) (by decide) (by decide) rfl rfl (wr_of rfl) (d := 6) (d2 := 0) (lv := [(6, .bool true)]) (bs := []) (W := []) (m := 4) (df := []) ⟨⟨_, rfl, plain_rv 8 rfl⟩, trivial⟩ trivial .nil) (fun f => ?_))
      rw [e]; exact ⟨_, _, _, rfl, wr_ge rfl⟩
    · refine ⟨i + 1, ⟨h1, ?_⟩, by show ql.length - (i + 1) < ql.length - i; omega, rc_slots [4] rfl rfl rfl (fun l e => by cases e) (by decide) (by decide) rfl rfl (wr_of rfl) ⟨⟨_, rfl, .int _ _⟩, ⟨_, rfl, .ptr _ _ _ rfl⟩, slot_int rfl (by rw [wrapN (by omega) (by omega)]; omega), trivial⟩ ⟨⟨by decide, _, rfl, .sameW (pq)⟩, ⟨by decide, _, rfl, .sameW (pa)⟩, ⟨by decide, _, rfl, .sameW (pn)⟩, ⟨by decide, _, rfl, .sameW (pr)⟩, ⟨by decide, _, rfl, msg_box⟩, trivial⟩ .nil⟩
      rw [heq]; unfold bigQ; rw [h2]; rfl
  · have h1 : ¬ i < ql.length := fun e => absurd (show ((i : Nat) : Int) < (ql.length : Int) by omega) (of_decide_eq_false h1)
    have e : ql.any (bigQ y) = false := by rw [heq, List.drop_eq_nil_of_le (by omega)]; rfl
    rw [e, Bool.false_or]
    refine And.intro rfl (rc_end (rc_slots [4] rfl rfl rfl (fun l e => by cases e) (by decide) (by decide) rfl rfl (wr_of rfl) (d := 6) (d2 := 3) (lv := [(2, .int .i64 y), (3, .pointer (some ⟨4, 0, none⟩))]) (bs := [(0, .win (RdL.cells layQ ⟨0, qc, qp, ql, qz⟩) layQ.k), (1, .win (RdL.cells layR ⟨1, ac, ap, al, az⟩) layR.k), (2, .win (RdL.cells layR ⟨2, nc, np, nl, nz⟩) layR.k), (3, .win (RdL.cells layR ⟨3, rc, rp, rl, rz⟩) layR.k), (4, .cells [.int .i64 id, .int .i64 fl, RdL.sl ⟨0, qc, qp, ql, qz⟩, RdL.sl ⟨1, ac, ap, al, az⟩, RdL.sl ⟨2, nc, np, nl, nz⟩, RdL.sl ⟨3, rc, rp, rl, rz⟩] 50)]) (W := []) (m := 5) (df := []) ⟨⟨_, rfl, .int _ _⟩, ⟨_, rfl, .ptr _ _ _ rfl⟩, trivial⟩ ⟨⟨by decide, _, rfl, .sameW (pq)⟩, ⟨by decide, _, rfl, .sameW (pa)⟩, ⟨by decide, _, rfl, .sameW (pn)⟩, ⟨by decide, _, rfl, .sameW (pr)⟩, ⟨by decide, _, rfl, msg_box (m := ⟨id, fl, ⟨0, qc, qp, ql, qz⟩, ⟨1, ac, ap, al, az⟩, ⟨2, nc, np, nl, nz⟩, ⟨3, rc, rp, rl, rz⟩⟩)⟩, trivial⟩ .nil) (fun f => ?_))
    refine Exists.intro (⟨1, ac, ap, al, az⟩, y) (And.intro ⟨rfl, ⟨seesB_of (by kernel_rfl), ha1, ha2⟩, f2⟩ ?_)
    refine ifK (fun g => ?_) (fun g => ?_)
    · have e : al.any (bigR y) = true := g
      rw [e]; exact ⟨_, _, _, rfl, wr_ge rfl⟩
    have e : al.any (bigR y) = false := g
    rw [e, Bool.false_or]
    refine Exists.intro (⟨2, nc, np, nl, nz⟩, y) (And.intro ⟨rfl, ⟨seesB_of (by kernel_rfl), hn1, hn2⟩, f3⟩ ?_)
    refine ifK (fun g => ?_) (fun g => ?_)
    · have e : nl.any (bigR y) = true := g
      rw [e]; exact ⟨_, _, _, rfl, wr_ge rfl⟩
    have e : nl.any (bigR y) = false := g
    rw [e, Bool.false_or]
    refine Exists.intro (⟨3, rc, rp, rl, rz⟩, y) (And.intro ⟨rfl, ⟨seesB_of (by kernel_rfl), hr1, hr2⟩, f4⟩ ?_)
    exact ⟨_, _, _, rfl, wr_ge rfl⟩
noncomputable def ct_bigMs : Ct Tryz.prog 0 := CtR.msg 61 (Int × Int) (fun y => [.int .i64 y.1, .int .i64 y.2]) (fun m y => .bool (bigMs y.1 y.2 m)) (fun m _ => m.fit) (fun _ => rfl) (fun _ _ => rfl) (fun y z h => by simp only [List.cons.injEq, Value.int.injEq, true_and, and_true] at h; exact Prod.ext h.1 h.2)
  (fun m y h0 h1 h2 h3 hat hp => by obtain ⟨r, hF, H, k, wr, rfl, hw⟩ := bigMs_fn m y.1 y.2 h0 h1 h2 h3 hat hp; exact ⟨H, k, wr, hF, hw⟩)
  (fun _ _ => rfl) (fun _ _ h => h)
end Go.Proofs.YtjbcamcegnjnaaaGreat
/- DERIVED. Chapter 26: awake; a core that is none. -/
namespace Go.Proofs.YtjbcamcegnjnaaaGreat
open Go Go.RowKit
theorem awake26_eval : retTrue (evT Tryz.prog 0 ([] : List (Ct Tryz.prog 0)) 1000000 (.call 8 []) fs0) = true := by kernel_rfl
theorem awake26_calls (w : World) : Calls Tryz.prog 8 #[] w fun e w' => e = .returned (.bool true) ∧ Below w.heap.size w w' := evT_true mixed [] 1000000 _ awake26_eval w
noncomputable def inl_cnone : Ct Tryz.prog 0 := Ct.inl (tbOf mixed []) mixed [] 42 Tryz.f42 Tryz.func42 (bodyOf Tryz.f42) (by kernel_rfl)
noncomputable def inl_clong : Ct Tryz.prog 0 := Ct.inl (tbOf mixed [ct_bigMs]) mixed [] 28 Tryz.f28 Tryz.func28 (bodyOf Tryz.f28) (by kernel_rfl)
noncomputable def inl_same_set : Ct Tryz.prog 0 := Ct.inl (tbOf mixed []) mixed [] 70 Tryz.f70 Tryz.func70 (bodyOf Tryz.f70) (by kernel_rfl)
noncomputable def inl_cquery : Ct Tryz.prog 0 := Ct.inl (tbOf mixed [inl_cnone]) mixed [] 14 Tryz.f14 Tryz.func14 (bodyOf Tryz.f14) (by kernel_rfl)
noncomputable def inl_cheard : Ct Tryz.prog 0 := Ct.inl (tbOf mixed [inl_cnone]) mixed [] 17 Tryz.f17 Tryz.func17 (bodyOf Tryz.f17) (by kernel_rfl)
noncomputable def inl_ctick : Ct Tryz.prog 0 := Ct.inl (tbOf mixed [inl_cnone]) mixed [] 24 Tryz.f24 Tryz.func24 (bodyOf Tryz.f24) (by kernel_rfl)
noncomputable def inl_cdraw : Ct Tryz.prog 0 := Ct.inl (tbOf mixed [inl_cnone]) mixed [] 35 Tryz.f35 Tryz.func35 (bodyOf Tryz.f35) (by kernel_rfl)
noncomputable def inl_csent : Ct Tryz.prog 0 := Ct.inl (tbOf mixed [inl_cnone]) mixed [] 31 Tryz.f31 Tryz.func31 (bodyOf Tryz.f31) (by kernel_rfl)
noncomputable def inl_cfini : Ct Tryz.prog 0 := Ct.inl (tbOf mixed [inl_cnone]) mixed [] 21 Tryz.f21 Tryz.func21 (bodyOf Tryz.f21) (by kernel_rfl)
noncomputable def inl_casks : Ct Tryz.prog 0 := Ct.inl (tbOf mixed [inl_cnone]) mixed [] 15 Tryz.f15 Tryz.func15 (bodyOf Tryz.f15) (by kernel_rfl)
noncomputable def inl_cruns : Ct Tryz.prog 0 := Ct.inl (tbOf mixed [inl_cnone]) mixed [] 22 Tryz.f22 Tryz.func22 (bodyOf Tryz.f22) (by kernel_rfl)
noncomputable def inl_ckept : Ct Tryz.prog 0 := Ct.inl (tbOf mixed [inl_cnone]) mixed [] 30 Tryz.f30 Tryz.func30 (bodyOf Tryz.f30) (by kernel_rfl)
noncomputable def inl_clook : Ct Tryz.prog 0 := Ct.inl (tbOf mixed [inl_cnone]) mixed [] 37 Tryz.f37 Tryz.func37 (bodyOf Tryz.f37) (by kernel_rfl)
noncomputable def inl_cfound : Ct Tryz.prog 0 := Ct.inl (tbOf mixed [inl_same_set]) mixed [] 36 Tryz.f36 Tryz.func36 (bodyOf Tryz.f36) (by kernel_rfl)
noncomputable def tbCn : Tb Tryz.prog 0 := tbOf mixed [inl_clong, Ct.yes 8 awake26_calls, inl_cquery, inl_cheard, inl_ctick, inl_cdraw, inl_csent, inl_cfini, inl_casks, inl_cruns, inl_ckept, inl_clook, inl_cfound]
end Go.Proofs.YtjbcamcegnjnaaaGreat
/- DERIVED. The law's walk: CoreNone. -/
namespace Go.Proofs.YtjbcamcegnjnaaaGreat
open Go Go.RowKit
set_option maxRecDepth 1000000 in
set_option maxHeartbeats 4000000 in
theorem cnone_fn (k0 t0 i0 p0 y0 : Int) (raw : Bool) (nm : ByteArray) (m : MsL) (bl : List Value) (bll bc : Nat) (b0 : m.q.b = 0) (b1 : m.an.b = 1) (b2 : m.ns.b = 2) (b3 : m.ar.b = 3) (hat : m.at m.heap) (hf : m.fit) :
    ∃ r, FnS Tryz.prog 0 7 [.agg #[.int .i64 k0, .int .i64 t0, .int .i64 i0, .int .i64 p0, .int .i64 y0, .bool raw, .string nm, .int .i64 m.id, .int .i64 m.fl, m.q.sl, m.an.sl, m.ns.sl, m.ar.sl, .slice (some ⟨4, 0, none⟩) bll bc]] (heap 3 [(0, .win (m.q.cells layQ) layQ.k), (1, .win (m.an.cells layR) layR.k), (2, .win (m.ns.cells layR) layR.k), (3, .win (m.ar.cells layR) layR.k), (4, .win bl 1)]) 5 r ∧ ∃ H k wr, r = .ret (.bool true) H k wr ∧ ∀ i ∈ wr, 5 ≤ i := by
  obtain ⟨id, fl, ⟨q0, qc, qp, ql, qz⟩, ⟨a0, ac, ap, al, az⟩, ⟨n0, nc, np, nl, nz⟩, ⟨r0, rc, rp, rl, rz⟩⟩ := m
  cases b0; cases b1; cases b2; cases b3
  obtain ⟨⟨_, hq1, hq2⟩, ⟨_, ha1, ha2⟩, ⟨_, hn1, hn2⟩, ⟨_, hr1, hr2⟩⟩ := hat
  refine fn_sx mixed tbCn [0, 1, 2, 3, 4] Tryz.func7 (c := bodyOf Tryz.f7) (by kernel_rfl) ?_
  refine Exists.intro (⟨id, fl, ⟨0, qc, qp, ql, qz⟩, ⟨1, ac, ap, al, az⟩, ⟨2, nc, np, nl, nz⟩, ⟨3, rc, rp, rl, rz⟩⟩, 30, 1000) (And.intro ⟨rfl, ⟨⟨seesB_of (by kernel_rfl), hq1, hq2⟩, ⟨seesB_of (by kernel_rfl), ha1, ha2⟩, ⟨seesB_of (by kernel_rfl), hn1, hn2⟩, ⟨seesB_of (by kernel_rfl), hr1, hr2⟩⟩, hf⟩ ?_)
  refine ifK (fun _ => ⟨_, _, _, rfl, wr_ge rfl⟩) (fun _ => ?_)
  refine ifK (fun _ => ⟨_, _, _, rfl, wr_ge rfl⟩) (fun _ => ?_)
  refine ifK (fun _ => ⟨_, _, _, rfl, wr_ge rfl⟩) (fun _ => ?_)
  refine LW.round ?_
  refine sx_ok tbCn [0, 1, 2, 3, 4] 5 _ none mixed _ _ _ ?_
  refine LW.round ?_
  refine sx_ok tbCn [0, 1, 2, 3, 4] 5 _ none mixed _ _ _ ?_
  refine LW.round ?_
  refine sx_ok tbCn [0, 1, 2, 3, 4] 5 _ none mixed _ _ _ ?_
  exact ⟨_, _, _, rfl, wr_ge rfl⟩
end Go.Proofs.YtjbcamcegnjnaaaGreat
