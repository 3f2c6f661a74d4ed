/- DERIVED. Texts put together: N1, D1, D2, D3, D4, D5, D5b, D6, N2, E1, E2, E3, E4P, F1, F2, F3, F4P, F5, N3, R1, R2, R3, R4, Ms1, Ms2, Ms3, R5, Ms4, Ms5, Ms7, Ms8, Cp1, Cp3, Cp4, Ms6, Cp2, A7. -/
import Derived.Test.YtcggcoijhdagnaaZ12
import Derived.Test.YtcggcoijhdagnaaZ13
import Derived.Test.YtcggcoijhdagnaaZ18
/- DERIVED. What is known of names, as contracts. -/
namespace Go.Proofs.Ytcggcoijhdagnaa
open Go Go.RowKit


/-- A string's bytes. -/
def bs (s : ByteArray) : Bs := s.data.toList
theorem str_bs (s : ByteArray) : str (bs s) = .string s := by simp [str, bs]
def shortB (s : ByteArray) : Bool := s.data.size.ble 1000000000
theorem short_len {s : ByteArray} (h : shortB s = true) : (bs s).length ≤ 1000000000 := by unfold bs; rw [Array.length_toList]; exact Nat.le_of_ble_eq_true h
/-- A string, not too long. -/
def gStr : List Value → Option Bool
  | [.string s] => some (shortB s)
  | _ => none
def argS (l : List Value) : ByteArray := match l with | .string s :: _ => s | _ => ⟨#[]⟩
theorem gStr_spec {l : List Value} (h : gStr l = some true) : ∃ s, l = [.string s] ∧ (bs s).length ≤ 1000000000 := by
  unfold gStr at h
  split at h
  · exact ⟨_, rfl, short_len (by simpa using h)⟩
  · cases h
/-- A function of a string. -/
def Ct.str1 (f : FuncId) (out : ByteArray → Value) (hp : ∀ s, plainV 8 (out s) = true) (ok : ∀ s w, (bs s).length ≤ 1000000000 → Calls Try.prog f #[.string s] w fun e w' => e = .returned (out s) ∧ Below w.heap.size w w') : Ct Try.prog 0 where
  f := f
  res l H n := match l with | [.string s] => bif shortB s then .ret (out s) H n [] else .bad "long" [] | _ => .bad "arguments" []
  ok l H n := by
    split
    · rename_i s
      cases hs : shortB s with
      | false => trivial
      | true => exact callOK_calls (fun w => ok s w (short_len hs)) rfl (hp s) H n
    · trivial
  ck l H n K := match l with | [.string s] => shortB s = true ∧ K (.ret (out s) H n []) | _ => False
  imp l H n K h := by
    split at h
    · obtain ⟨h1, h2⟩ := h
      simp only [h1, cond_true]; exact h2
    · exact h.elim
def Ct.str2 (f : FuncId) (out : ByteArray → ByteArray → Value) (hp : ∀ s t, plainV 8 (out s t) = true) (ok : ∀ s t w, (bs s).length ≤ 1000000000 → (bs t).length ≤ 1000000000 → Calls Try.prog f #[.string s, .string t] w fun e w' => e = .returned (out s t) ∧ Below w.heap.size w w') : Ct Try.prog 0 where
  f := f
  res l H n := match l with | [.string s, .string t] => bif shortB s && shortB t then .ret (out s t) H n [] else .bad "long" [] | _ => .bad "arguments" []
  ok l H n := by
    split
    · rename_i s t
      cases hs : (shortB s && shortB t) with
      | false => trivial
      | true =>
        simp only [Bool.and_eq_true] at hs
        exact callOK_calls (fun w => ok s t w (short_len hs.1) (short_len hs.2)) rfl (hp s t) H n
    · trivial
  ck l H n K := match l with | [.string s, .string t] => (shortB s && shortB t) = true ∧ K (.ret (out s t) H n []) | _ => False
  imp l H n K h := by
    split at h
    · obtain ⟨h1, h2⟩ := h
      simp only [h1, cond_true]; exact h2
    · exact h.elim

def sameNames (a b : Bs) : Bool := decide ((labels a).2 = 0 ∧ (labels b).2 = 0 ∧ lower a = lower b)

def ct_check : Ct Try.prog 0 := Ct.str1 52 (fun s => .int .i64 (labels (bs s)).2) (fun _ => rfl) (fun s w hs => by have := nameCheck_any (bs s) w hs; rwa [str_bs] at this)
theorem labels_plain (s : ByteArray) : plainL ((labels (bs s)).1.map str) = true := by simp [plainL, plainV, str]
def ct_labels : Ct Try.prog 0 := Ct.guard 79 gStr (fun l H n => listOut 9 1 ((labels (bs (argS l))).1.map str) (labels (bs (argS l))).1.length (fun v => .tuple #[v, .int .i64 (labels (bs (argS l))).2]) H n) (fun l H n h => by
  obtain ⟨s, rfl, hs⟩ := gStr_spec h
  refine callOK_list rfl (labels_plain s) (by kernel_rfl) (fun E v v' h => .tuple _ _ (.cons _ _ _ _ h (.cons _ _ _ _ (.int _ _) .nil))) (fun w => ?_) H n
  have := labels_any (bs s) w hs
  rw [str_bs] at this
  refine this.mono ?_
  rintro e w' ⟨v, h1, h2, h3, h4⟩
  exact ⟨v, h1, h2, h3, fun h => h4 (List.length_eq_zero_iff.1 h)⟩)
end Go.Proofs.Ytcggcoijhdagnaa
/- DERIVED. Data: texts, names in front. -/
namespace Go.Proofs.Ytcggcoijhdagnaa
open Go Go.RowKit

theorem bs_sub (s : ByteArray) (l h : Nat) : bs (subS s l h) = ((bs s).take h).drop l := by simp [bs, subS]
theorem bs_size (s : ByteArray) : s.data.size = (bs s).length := by simp [bs]
theorem bs_ext {s t : ByteArray} (h : bs s = bs t) : s = t := ByteArray.ext (Array.toList_inj.1 h)
theorem atS_get (s : ByteArray) (i : Nat) (h : i < (bs s).length) : atS s (i : Int) = (bs s)[i] := by
  unfold atS
  rw [Int.toNat_natCast, List.getD_eq_getElem?_getD]
  show ((bs s)[i]?).getD 0 = _
  rw [List.getElem?_eq_getElem h]; rfl
theorem wrapN {x : Int} (h1 : 0 ≤ x) (h2 : x < 9223372036854775808) : IntKind.i64.wrap x = x := wrap_i64 (by omega) h2
theorem byte_lt (c : UInt8) : c.toNat < 256 := UInt8.toNat_lt c

/-! ### texts -/
def txtF : Nat → Bs → Bool
  | 0, _ => false
  | _ + 1, [] => true
  | n + 1, c :: r => decide (c.toNat ≤ r.length) && txtF n (r.drop c.toNat)
theorem txtF_eq : ∀ (n m : Nat) (l : Bs), l.length < n → l.length < m → txtF n l = txtF m l
  | n + 1, m + 1, [], _, _ => rfl
  | n + 1, m + 1, c :: r, h1, h2 => by
    simp only [txtF]
    rw [txtF_eq n m (r.drop c.toNat) (by simp at h1 ⊢; omega) (by simp at h2 ⊢; omega)]
def txt (l : Bs) : Bool := txtF (l.length + 1) l
theorem txt_nil : txt [] = true := rfl
theorem txt_cons (c : UInt8) (r : Bs) : txt (c :: r) = (decide (c.toNat ≤ r.length) && txt (r.drop c.toNat)) := by
  unfold txt
  simp only [txtF, List.length_cons]
  rw [txtF_eq (r.length + 1) ((r.drop c.toNat).length + 1) _ (by simp; omega) (by omega)]
theorem txt_at (l : Bs) (i : Nat) (h : i < l.length) : txt (l.drop i) = (decide (i + 1 + l[i].toNat ≤ l.length) && txt (l.drop (i + 1 + l[i].toNat))) := by
  rw [List.drop_eq_getElem_cons h, txt_cons, List.drop_drop]
  congr 1
  rw [decide_eq_decide]; simp; omega
def texts (l : Bs) : Bool := !l.isEmpty && txt l

set_option maxRecDepth 100000 in
theorem texts_fn (s : ByteArray) (hs : (bs s).length ≤ 1000000000) : ∃ r, FnS Try.prog 0 107 [.string s] .e 0 r ∧ ∃ H m wr, r = .ret (.bool (texts (bs s))) H m wr := by
  refine fn_sx mixed (tbOf mixed []) [] Try.func107 (c := bodyOf Try.f107) (by kernel_rfl) ?_
  refine loop_go (fun i f => ⟨slots 6 [(0, .string s), (3, .int .i64 (i : Nat))] f, heap 0 [], 0, [], []⟩) (fun i => (bs s).length - i) (fun i => i ≤ (bs s).length ∧ txt (bs s) = txt ((bs s).drop i)) 0 ⟨Nat.zero_le _, rfl⟩
    (rc_slots [] rfl rfl rfl (fun l e => by cases e) List.nodup_nil (fun x hx => by cases hx) rfl rfl (fun k hk _ => hk) ⟨⟨_, rfl, .string _⟩, ⟨_, rfl, .int _ _⟩, trivial⟩ trivial .nil) ?_
  rintro i f ⟨hi, heq⟩
  refine sx_ok (tbOf mixed []) [] 0 _ none mixed _ _ _ ?_
  refine ifK (fun h1 => ?_) (fun h1 => ?_)
  · have h1 : i < (bs s).length := by have := of_decide_eq_true h1; rw [bs_size] at this; omega
    have hb := byte_lt (bs s)[i]
    have hat := atS_get s i h1
    have e1 : IntKind.i64.wrap ((i : Int) + IntKind.i64.wrap (1 + IntKind.i64.wrap ((atS s (i : Int)).toNat : Int))) = ((i + 1 + (bs s)[i].toNat : Nat) : Int) := by
      rw [hat, wrapN (x := (((bs s)[i]).toNat : Int)) (by omega) (by omega), wrapN (x := 1 + (((bs s)[i]).toNat : Int)) (by omega) (by omega), wrapN (by omega) (by omega)]; omega
    refine And.intro (by simp only [inI, bs_size]; simp; omega) ?_
    have hstep := txt_at (bs s) i h1
    refine ifK (fun h2 => ?_) (fun h2 => ?_)
    · have h2 := of_decide_eq_true h2
      rw [e1, bs_size] at h2
      have : texts (bs s) = false := by
        unfold texts; rw [heq, hstep, decide_eq_false (by omega)]; simp
      rw [this]; exact ⟨_, _, _, rfl⟩
    · have h2 := of_decide_eq_false h2
      rw [e1, bs_size] at h2
      refine ⟨i + 1 + (bs s)[i].toNat, ⟨by omega, ?_⟩, by omega, rc_slots [] rfl rfl rfl (fun l e => by cases e) List.nodup_nil (fun x hx => by cases hx) rfl rfl (fun k hk _ => hk) ⟨⟨_, rfl, .string _⟩, slot_int rfl e1, trivial⟩ trivial .nil⟩
      rw [heq, hstep, decide_eq_true (by omega), Bool.true_and]
  · have h1 : ¬ i < (bs s).length := by have := of_decide_eq_false h1; rw [bs_size] at this; omega
    have : texts (bs s) = !(s.data.toList == []) := by
      unfold texts
      rw [heq, List.drop_eq_nil_of_le (by omega), txt_nil, Bool.and_true]
      show (!(bs s).isEmpty) = !(bs s == [])
      cases bs s <;> rfl
    rw [this]; exact ⟨_, _, _, rfl⟩
end Go.Proofs.Ytcggcoijhdagnaa
/- DERIVED. Data: the parts of a type. -/
namespace Go.Proofs.Ytcggcoijhdagnaa
open Go Go.RowKit

def rOf (Q : Value → Tr AObj → Prop) (r : Res) : Prop := match r with | .ret v H _ _ => Q v H | _ => False
def resV (r : Res) : Value := match r with | .ret v _ _ _ => v | _ => .nilFunc

noncomputable def evP (t : Int) : Res := ev Try.prog 0 1000 (.call 102 [.int .i64 t]) ⟨.e, .e, 0, [], []⟩
theorem parts_tree (t : Int) (Q : Value → Tr AObj → Prop) : (frcTr (tmpsOf [.int .i64 t] 0 .e) fun T => sx (tbK mixed (g0 := 0) true []) [] 0 (1 + (Try.f102.ntmps - 1)) none (bodyOf Try.f102) ⟨T, .e, 0, [], []⟩ (fnK (tbK mixed (g0 := 0) true []) Try.f102 (rOf Q))) =
    brK (t == 1) (Q (resV (evP 1)) (resH (evP 1))) (brK (t == 28) (Q (resV (evP 28)) (resH (evP 1))) (brK (t == 2) (Q (resV (evP 2)) (resH (evP 1))) (brK (t == 5) (Q (resV (evP 5)) (resH (evP 1))) (brK (t == 12) (Q (resV (evP 12)) (resH (evP 1)))
      (brK (t == 15) (Q (resV (evP 15)) (resH (evP 1))) (brK (t == 6) (Q (resV (evP 6)) (resH (evP 1))) (brK (t == 16) (Q (resV (evP 16)) (resH (evP 1))) (Q (.tuple #[.slice none 0 0, .bool false]) (resH (evP 1)))))))))) := by kernel_rfl

/-- A part: so many bytes, or a name, or texts up to the end. -/
def part (n : Int) (name rest : Bool) : List Value := [.int .i64 n, .bool name, .bool rest]
/-- The parts of the types that are known: how many, their cells. -/
def partsTab : List (Int × Nat × List Value) :=
  [(1, 1, part 4 false false), (28, 1, part 16 false false), (2, 1, part 0 true false), (5, 1, part 0 true false), (12, 1, part 0 true false), (15, 2, part 2 false false ++ part 0 true false),
   (6, 3, part 0 true false ++ part 0 true false ++ part 20 false false), (16, 1, part 0 false true)]
def partsOut (len : Nat) (c : List Value) (H : Tr AObj) (n : Nat) : Res := .ret (.tuple #[.slice (some ⟨n, 0, none⟩) len len, .bool true]) (H.set n (some (.cells c 144))) (n + 1) []
def partsGo (t : Int) (H : Tr AObj) (n : Nat) : List (Int × Nat × List Value) → Res
  | [] => .ret (.tuple #[.slice none 0 0, .bool false]) H n []
  | (k, len, c) :: l => bif t == k then partsOut len c H n else partsGo t H n l
def partsK (t : Int) (H : Tr AObj) (n : Nat) (K : Res → Prop) : List (Int × Nat × List Value) → Prop
  | [] => K (.ret (.tuple #[.slice none 0 0, .bool false]) H n [])
  | (k, len, c) :: l => brK (t == k) (K (partsOut len c H n)) (partsK t H n K l)
theorem partsK_imp {t : Int} {H : Tr AObj} {n : Nat} {K : Res → Prop} : ∀ {l : List (Int × Nat × List Value)}, partsK t H n K l → K (partsGo t H n l)
  | [], h => h
  | (k, len, c) :: l, h => by
    unfold partsK at h
    unfold partsGo
    cases hb : (t == k) with
    | true => rw [hb] at h; exact h
    | false => rw [hb] at h; exact partsK_imp (l := l) h

set_option maxRecDepth 1000000 in
theorem parts_ok (t : Int) (H : Tr AObj) (n : Nat) : CallOK Try.prog 0 102 [.int .i64 t] H n (partsGo t H n partsTab) := by
  have main : ∀ v, (frcTr (tmpsOf [.int .i64 t] 0 .e) fun T => sx (tbK mixed (g0 := 0) true []) [] 0 (1 + (Try.f102.ntmps - 1)) none (bodyOf Try.f102) ⟨T, .e, 0, [], []⟩ (fnK (tbK mixed (g0 := 0) true []) Try.f102 (rOf fun v' H' => v' = v ∧ H' = resH (evP 1)))) → ∃ m wr, FnS Try.prog 0 102 [.int .i64 t] .e 0 (.ret v (resH (evP 1)) m wr) := by
    intro v h
    obtain ⟨r, h1, h2⟩ := fn_sx mixed (tbK mixed true []) [] Try.func102 (c := bodyOf Try.f102) (by kernel_rfl) h
    cases r with
    | ret v' H' m wr => obtain ⟨rfl, rfl⟩ := h2; exact ⟨m, wr, h1⟩
    | _ => exact h2.elim
  have one : ∀ (b len : Nat) (c : List Value), (∃ m wr, FnS Try.prog 0 102 [.int .i64 t] .e 0 (.ret (.tuple #[.slice (some ⟨b, 0, none⟩) len len, .bool true]) (resH (evP 1)) m wr)) → (resH (evP 1)).get b = some (.cells c 144) → b < JJ → plainL c = true → CallOK Try.prog 0 102 [.int .i64 t] H n (partsOut len c H n) := by
    rintro b len c ⟨m, wr, hF⟩ hb hJ hp
    exact callOK_fresh1 (fun n => .tuple #[.slice (some ⟨n, 0, none⟩) len len, .bool true]) hF rfl hb hJ hp (fun n => .tuple _ _ (.cons _ _ _ _ (.sl _ _ _ _ _ (tau_one _ _)) (.cons _ _ _ _ (.bool _) .nil))) H n
  unfold partsTab
  simp only [partsGo]
  cases h1 : (t == 1) with
  | true => exact one 2 1 _ (main _ (by rw [parts_tree, h1]; exact ⟨(by kernel_rfl), rfl⟩)) (by kernel_rfl) (by decide) rfl
  | false =>
  cases h2 : (t == 28) with
  | true => exact one 3 1 _ (main _ (by rw [parts_tree, h1, h2]; exact ⟨(by kernel_rfl), rfl⟩)) (by kernel_rfl) (by decide) rfl
  | false =>
  cases h3 : (t == 2) with
  | true => exact one 4 1 _ (main _ (by rw [parts_tree, h1, h2, h3]; exact ⟨(by kernel_rfl), rfl⟩)) (by kernel_rfl) (by decide) rfl
  | false =>
  cases h4 : (t == 5) with
  | true => exact one 5 1 _ (main _ (by rw [parts_tree, h1, h2, h3, h4]; exact ⟨(by kernel_rfl), rfl⟩)) (by kernel_rfl) (by decide) rfl
  | false =>
  cases h5 : (t == 12) with
  | true => exact one 6 1 _ (main _ (by rw [parts_tree, h1, h2, h3, h4, h5]; exact ⟨(by kernel_rfl), rfl⟩)) (by kernel_rfl) (by decide) rfl
  | false =>
  cases h6 : (t == 15) with
  | true => exact one 7 2 _ (main _ (by rw [parts_tree, h1, h2, h3, h4, h5, h6]; exact ⟨(by kernel_rfl), rfl⟩)) (by kernel_rfl) (by decide) rfl
  | false =>
  cases h7 : (t == 6) with
  | true => exact one 8 3 _ (main _ (by rw [parts_tree, h1, h2, h3, h4, h5, h6, h7]; exact ⟨(by kernel_rfl), rfl⟩)) (by kernel_rfl) (by decide) rfl
  | false =>
  cases h8 : (t == 16) with
  | true => exact one 9 1 _ (main _ (by rw [parts_tree, h1, h2, h3, h4, h5, h6, h7, h8]; exact ⟨(by kernel_rfl), rfl⟩)) (by kernel_rfl) (by decide) rfl
  | false =>
    obtain ⟨m, wr, hF⟩ := main (.tuple #[.slice none 0 0, .bool false]) (by rw [parts_tree, h1, h2, h3, h4, h5, h6, h7, h8]; exact ⟨rfl, rfl⟩)
    exact callOK_pure hF rfl rfl H n

def ct_parts : Ct Try.prog 0 where
  f := 102
  res l H n := match l with | [.int .i64 t] => partsGo t H n partsTab | _ => .bad "arguments" []
  ok l H n := by
    split
    · rename_i t
      have := parts_ok t H n
      generalize partsGo t H n partsTab = r at this ⊢
      cases r <;> first | exact this | trivial
    · trivial
  ck l H n K := match l with | [.int .i64 t] => partsK t H n K partsTab | _ => False
  imp l H n K h := by
    split at h
    · exact partsK_imp h
    · exact h.elim
end Go.Proofs.Ytcggcoijhdagnaa
/- DERIVED. Data: the name in front. -/
namespace Go.Proofs.Ytcggcoijhdagnaa
open Go Go.RowKit

/-- Where the first name of some bytes has its last 0. -/
def zposF : Nat → Bs → Option Nat
  | 0, _ => none
  | _ + 1, [] => none
  | n + 1, c :: r => if c.toNat = 0 then some 0 else (zposF n (r.drop c.toNat)).map (· + (c.toNat + 1))
theorem zposF_eq : ∀ (n m : Nat) (l : Bs), l.length < n → l.length < m → zposF n l = zposF m l
  | n + 1, m + 1, [], _, _ => rfl
  | n + 1, m + 1, c :: r, h1, h2 => by
    simp only [zposF]
    rw [zposF_eq n m (r.drop c.toNat) (by simp at h1 ⊢; omega) (by simp at h2 ⊢; omega)]
def zpos (l : Bs) : Option Nat := zposF (l.length + 1) l
theorem zpos_nil : zpos [] = none := rfl
theorem zpos_cons (c : UInt8) (r : Bs) : zpos (c :: r) = if c.toNat = 0 then some 0 else (zpos (r.drop c.toNat)).map (· + (c.toNat + 1)) := by
  unfold zpos
  simp only [zposF, List.length_cons]
  rw [zposF_eq (r.length + 1) ((r.drop c.toNat).length + 1) _ (by simp; omega) (by omega)]
theorem zpos_at (l : Bs) (i : Nat) (h : i < l.length) : zpos (l.drop i) = if l[i].toNat = 0 then some 0 else (zpos (l.drop (i + 1 + l[i].toNat))).map (· + (l[i].toNat + 1)) := by
  rw [List.drop_eq_getElem_cons h, zpos_cons, List.drop_drop]
theorem zpos_lt : ∀ (n : Nat) (l : Bs) (k : Nat), l.length ≤ n → zpos l = some k → k < l.length
  | 0, l, k, hn, h => by
    have : l = [] := List.length_eq_zero_iff.1 (by omega)
    subst this; cases h
  | n + 1, [], k, _, h => by cases h
  | n + 1, c :: r, k, hn, h => by
    rw [zpos_cons] at h
    split at h
    · cases h; simp
    · obtain ⟨j, hj, rfl⟩ := Option.map_eq_some_iff.1 h
      have := zpos_lt n (r.drop c.toNat) j (by simp at hn ⊢; omega) hj
      simp at this ⊢; omega
theorem labels_len {l : Bs} (h : (labels l).2 = 0) : l.length ≤ 255 := by
  unfold labels at h
  split at h
  · cases h
  · split at h
    · cases h
    · omega
/-- How long the name is that some bytes begin with. -/
def front (l : Bs) : Option Nat := match zpos l with | some k => if (labels (l.take (k + 1))).2 = 0 then some (k + 1) else none | none => none

def unfitV : Value := .iface 148 (.agg #[])
noncomputable def tbD3 : Tb Try.prog 0 := tbOf mixed [ct_check]
def fullB (s : ByteArray) : Bs := bs s

set_option maxRecDepth 100000 in
theorem first_fn (s : ByteArray) (hs : (bs s).length ≤ 1000000000) : ∃ r, FnS Try.prog 0 108 [.string s] .e 0 r ∧ ∃ H m wr, (∃ k, front (bs s) = some k ∧ r = .ret (.string (subS s 0 k)) H m wr) ∨ (front (bs s) = none ∧ r = .pan [(unfitV, false)] H m wr) := by
  refine fn_sx mixed tbD3 [] Try.func108 (c := bodyOf Try.f108) (by kernel_rfl) ?_
  refine loop_go (fun i f => ⟨slots 6 [(0, .string s), (3, .int .i64 (i : Nat))] f, heap 0 [], 0, [], []⟩) (fun i => (bs s).length + 300 - i) (fun i => i ≤ (bs s).length + 256 ∧ zpos (bs s) = (zpos ((bs s).drop i)).map (· + i)) 0 ⟨Nat.zero_le _, by simp⟩
    (rc_slots [] rfl rfl rfl (fun l e => by cases e) List.nodup_nil (fun x hx => by cases hx) rfl rfl (fun k hk _ => hk) ⟨⟨_, rfl, .string _⟩, ⟨_, rfl, .int _ _⟩, trivial⟩ trivial .nil) ?_
  rintro i f ⟨hi, heq⟩
  refine sx_ok tbD3 [] 0 _ none mixed _ _ _ ?_
  refine ifK (fun h1 => ?_) (fun h1 => ?_)
  · have h1 : i < (bs s).length := by have := of_decide_eq_true h1; rw [bs_size] at this; omega
    have hb := byte_lt (bs s)[i]
    have hat := atS_get s i h1
    have hstep := zpos_at (bs s) i h1
    refine ifK (fun h2 => ?_) (fun h2 => ?_)
    · have h2 := of_decide_eq_true h2
      refine And.intro (by simp only [inI, bs_size]; simp; omega) ?_
      refine ifK (fun h3 => ?_) (fun h3 => ?_)
      · have h3 : (bs s)[i].toNat = 0 := by rw [hat] at h3; simpa using h3
        rw [if_pos h3] at hstep
        rw [hstep] at heq
        have hz : zpos (bs s) = some i := by rw [heq]; simp
        have e1 : IntKind.i64.wrap ((i : Int) + 1) = ((i + 1 : Nat) : Int) := by rw [wrapN (by omega) (by omega)]; omega
        have e2 : (IntKind.i64.wrap ((i : Int) + 1)).toNat = i + 1 := by rw [e1]; rfl
        refine And.intro (by rw [e1]; simp only [inLH, bs_size]; simp; omega) ?_
        have hsub : bs (subS s (Int.toNat 0) (IntKind.i64.wrap ((i : Int) + 1)).toNat) = (bs s).take (i + 1) := by rw [bs_sub, e2]; simp
        refine And.intro (by unfold shortB; rw [bs_size, hsub]; simp; omega) ?_
        refine ifK (fun h4 => ?_) (fun h4 => ?_)
        · have h4 : (labels ((bs s).take (i + 1))).2 = 0 := by rw [hsub] at h4; simpa using h4
          have hf : front (bs s) = some (i + 1) := by unfold front; rw [hz]; simp [h4]
          exact ⟨_, _, _, .inl ⟨i + 1, hf, by rw [← e2]; rfl⟩⟩
        · have h4 : ¬ (labels ((bs s).take (i + 1))).2 = 0 := by rw [hsub] at h4; simpa using h4
          have hf : front (bs s) = none := by unfold front; rw [hz]; simp [h4]
          exact ⟨_, _, _, .inr ⟨hf, rfl⟩⟩
      · have h3 : (bs s)[i].toNat ≠ 0 := by rw [hat] at h3; simpa using h3
        rw [if_neg h3] at hstep
        have e1 : IntKind.i64.wrap ((i : Int) + IntKind.i64.wrap (1 + IntKind.i64.wrap ((atS s (i : Int)).toNat : Int))) = ((i + 1 + (bs s)[i].toNat : Nat) : Int) := by
          rw [hat, wrapN (x := (((bs s)[i]).toNat : Int)) (by omega) (by omega), wrapN (x := 1 + (((bs s)[i]).toNat : Int)) (by omega) (by omega), wrapN (by omega) (by omega)]; omega
        refine And.intro (by simp only [inI, bs_size]; simp; omega) ?_
        refine ⟨i + 1 + (bs s)[i].toNat, ⟨by omega, ?_⟩, by omega, rc_slots [] rfl rfl rfl (fun l e => by cases e) List.nodup_nil (fun x hx => by cases hx) rfl rfl (fun k hk _ => hk) ⟨⟨_, rfl, .string _⟩, slot_int rfl e1, trivial⟩ trivial .nil⟩
        rw [heq, hstep, Option.map_map]
        congr 1
        funext j; simp; omega
    · have h2 : ¬ i < 255 := by have := of_decide_eq_false h2; omega
      have hf : front (bs s) = none := by
        unfold front
        rw [heq]
        cases hz : zpos ((bs s).drop i) with
        | none => rfl
        | some j =>
          simp only [Option.map_some]
          rw [if_neg]
          intro hl
          have h5 := labels_len hl
          have h6 := zpos_lt _ _ _ (Nat.le_refl _) hz
          simp at h5 h6; omega
      exact ⟨_, _, _, .inr ⟨hf, rfl⟩⟩
  · have h1 : ¬ i < (bs s).length := by have := of_decide_eq_false h1; rw [bs_size] at this; omega
    have hf : front (bs s) = none := by
      unfold front
      rw [heq, List.drop_eq_nil_of_le (by omega), zpos_nil]; rfl
    exact ⟨_, _, _, .inr ⟨hf, rfl⟩⟩
end Go.Proofs.Ytcggcoijhdagnaa
/- DERIVED. Data: contracts of texts and names in front. -/
namespace Go.Proofs.Ytcggcoijhdagnaa
open Go Go.RowKit

/-- A function of a string that was walked. -/
def Ct.strF (f : FuncId) (out : ByteArray → Value) (hp : ∀ s, plainV 8 (out s) = true) (ok : ∀ s, (bs s).length ≤ 1000000000 → ∃ H m wr, FnS Try.prog 0 f [.string s] .e 0 (.ret (out s) H m wr)) : Ct Try.prog 0 where
  f := f
  res l H n := match l with | [.string s] => bif shortB s then .ret (out s) H n [] else .bad "long" [] | _ => .bad "arguments" []
  ok l H n := by
    split
    · rename_i s
      cases hs : shortB s with
      | false => trivial
      | true => obtain ⟨_, _, _, h⟩ := ok s (short_len hs); exact callOK_pure h rfl (hp s) H n
    · trivial
  ck l H n K := match l with | [.string s] => shortB s = true ∧ K (.ret (out s) H n []) | _ => False
  imp l H n K h := by
    split at h
    · obtain ⟨h1, h2⟩ := h
      simp only [h1, cond_true]; exact h2
    · exact h.elim

def ct_texts : Ct Try.prog 0 := Ct.strF 107 (fun s => .bool (texts (bs s))) (fun _ => rfl) (fun s hs => by
  obtain ⟨r, h, H, m, wr, rfl⟩ := texts_fn s hs
  exact ⟨H, m, wr, h⟩)

/-- How long the name in front is, or 0. -/
def frontN (l : Bs) : Nat := (front l).getD 0
def ct_first : Ct Try.prog 0 where
  f := 108
  res l H n := match l with | [.string s] => bif shortB s then (bif (front (bs s)).isSome then .ret (.string (subS s 0 (frontN (bs s)))) H n [] else .pan [(unfitV, false)] H n []) else .bad "long" [] | _ => .bad "arguments" []
  ok l H n := by
    split
    · rename_i s
      cases hs : shortB s with
      | false => trivial
      | true =>
        obtain ⟨r, h, H', m, wr, ⟨k, hf, rfl⟩ | ⟨hf, rfl⟩⟩ := first_fn s (short_len hs)
        · simp only [hf, Option.isSome_some, cond_true]
          have : frontN (bs s) = k := by simp [frontN, hf]
          rw [this]
          exact callOK_pure h rfl rfl H n
        · simp only [hf, Option.isSome_none, cond_true, cond_false]
          exact callOK_purepan h rfl rfl H n
    · trivial
  ck l H n K := match l with | [.string s] => shortB s = true ∧ brK (front (bs s)).isSome (K (.ret (.string (subS s 0 (frontN (bs s)))) H n [])) (K (.pan [(unfitV, false)] H n [])) | _ => False
  imp l H n K h := by
    split at h
    · rename_i s
      obtain ⟨h1, h2⟩ := h
      simp only [h1, cond_true]
      cases hf : (front (bs s)).isSome with
      | true => rw [hf] at h2; exact h2
      | false => rw [hf] at h2; exact h2
    · exact h.elim
end Go.Proofs.Ytcggcoijhdagnaa
/- DERIVED. Data: split. -/
namespace Go.Proofs.Ytcggcoijhdagnaa
open Go Go.RowKit

/-- A part of a type's data: a name; texts up to the end; so many bytes. -/
inductive Pt where
  | nm
  | rest
  | sz (k : Nat)
def Pt.cell : Pt → List Value
  | .nm => part 0 true false
  | .rest => part 0 false true
  | .sz k => part k false false
def Pt.isName : Pt → Bool
  | .nm => true
  | _ => false
theorem Pt.cell_len (p : Pt) : p.cell.length = 3 := by cases p <;> rfl
theorem Pt.cell_plain (p : Pt) : plainL p.cell = true := by cases p <;> rfl
def pc (p : Bs × Bool) : List Value := [str p.1, .bool p.2]
theorem pc_len (p : Bs × Bool) : (pc p).length = 2 := rfl
theorem pc_plain (p : Bs × Bool) : plainL (pc p) = true := rfl
/-- How many bytes stand in a part. -/
def Pt.cut (p : Pt) (l : Bs) : Option Nat :=
  match p with
  | .nm => front l
  | .rest => if texts l then some l.length else none
  | .sz k => if k ≤ l.length then some k else none
def cuts : List Pt → Bs → Option (List (Bs × Bool) × Bs)
  | [], l => some ([], l)
  | p :: ps, l => match p.cut l with
    | none => none
    | some n => (cuts ps (l.drop n)).map fun x => ((l.take n, p.isName) :: x.1, x.2)
theorem front_le {l : Bs} {k : Nat} (h : front l = some k) : k ≤ l.length := by
  unfold front at h
  split at h
  · rename_i j hj
    have := zpos_lt _ _ _ (Nat.le_refl _) hj
    split at h
    · cases h; omega
    · cases h
  · cases h
theorem cut_le {p : Pt} {l : Bs} {k : Nat} (h : p.cut l = some k) : k ≤ l.length := by
  cases p with
  | nm => exact front_le h
  | rest => simp only [Pt.cut] at h; split at h <;> simp at h; omega
  | sz k' => simp only [Pt.cut] at h; split at h <;> simp at h; omega

noncomputable def tbD5 : Tb Try.prog 0 := tbOf mixed [ct_parts, ct_texts, ct_first]

/-- At the head of split's loop. -/
def spS (ps : List Pt) (x : Nat × List (Bs × Bool) × ByteArray) (f : Nat → Option Value) : Fs :=
  match x with
  | (i, acc, s) =>
    match acc with
    | [] => ⟨slots 7 [(1, .string s), (4, .pointer (some ⟨0, 0, none⟩)), (5, .pointer (some ⟨1, 0, none⟩)), (22, .slice (some ⟨2, 0, none⟩) ps.length ps.length), (23, .int .i64 ps.length), (24, .int .i64 i)] f,
        heap 3 [(0, .cells [.slice none 0 0] 123), (1, .cells [.bool false] 4), (2, .cells (ps.flatMap Pt.cell) 144)], 3, [], [.call 106 [.pointer (some ⟨0, 0, none⟩), .pointer (some ⟨1, 0, none⟩)] []]⟩
    | a :: l => ⟨slots 7 [(1, .string s), (4, .pointer (some ⟨0, 0, none⟩)), (5, .pointer (some ⟨1, 0, none⟩)), (22, .slice (some ⟨2, 0, none⟩) ps.length ps.length), (23, .int .i64 ps.length), (24, .int .i64 i)] f,
        heap 3 [(0, .cells [.slice (some ⟨3, 0, none⟩) (l.length + 1) U] 123), (1, .cells [.bool false] 4), (2, .cells (ps.flatMap Pt.cell) 144), (3, .cells ((a :: l).flatMap pc) 127)], 4, [], [.call 106 [.pointer (some ⟨0, 0, none⟩), .pointer (some ⟨1, 0, none⟩)] []]⟩
end Go.Proofs.Ytcggcoijhdagnaa
/- DERIVED. Data: how split ends, its deferred call included. -/
namespace Go.Proofs.Ytcggcoijhdagnaa
open Go Go.RowKit

noncomputable def endS (tb : Tb Try.prog 0) (x : Ex) (s : Fs) : Res :=
  match modeOf x with
  | some u => (match evOut Try.prog tb.go s.df u s.H s.n s.wr with
    | .ok none H n wr => (match evResults Try.prog { s with H } Try.f91.results.toList with | some vs => .ret (tupleOf vs) H n wr | none => .bad "" [])
    | _ => .bad "" [])
  | none => .bad "" []
def hOf (r : Res) : Tr AObj := match r with | .ret _ H _ _ => H | _ => .e
def nOf (r : Res) : Nat := match r with | .ret _ _ n _ => n | _ => 0
def wOf (r : Res) : List Nat := match r with | .ret _ _ _ wr => wr | _ => []

noncomputable def sEnd0 (f2 : Nat → Option Value) : Fs := ⟨slots 7 [(4, .pointer (some ⟨0, 0, none⟩)), (5, .pointer (some ⟨1, 0, none⟩))] f2, heap 2 [(0, .cells [.slice none 0 0] 123), (1, .cells [.bool false] 4)], 2, [], [.call 106 [.pointer (some ⟨0, 0, none⟩), .pointer (some ⟨1, 0, none⟩)] []]⟩
theorem end_pan0 (tb : Tb Try.prog 0) (R : Res → Prop) (f2 : Nat → Option Value) : fnK tb Try.f91 R (.pan [(unfitV, false)]) (sEnd0 f2) = R (.ret (.tuple #[.slice none 0 0, .bool false]) (hOf (endS tb (.pan [(unfitV, false)]) (sEnd0 f2))) (nOf (endS tb (.pan [(unfitV, false)]) (sEnd0 f2))) (wOf (endS tb (.pan [(unfitV, false)]) (sEnd0 f2)))) := by kernel_rfl

noncomputable def sEnd1 (k : Nat) (f2 : Nat → Option Value) : Fs := ⟨slots 7 [(4, .pointer (some ⟨0, 0, none⟩)), (5, .pointer (some ⟨1, 0, none⟩))] f2, heap 2 [(0, .cells [.slice (some ⟨2, 0, none⟩) (k + 1) U] 123), (1, .cells [.bool false] 4)], 3, [], [.call 106 [.pointer (some ⟨0, 0, none⟩), .pointer (some ⟨1, 0, none⟩)] []]⟩
theorem end_pan1 (tb : Tb Try.prog 0) (R : Res → Prop) (k : Nat) (f2 : Nat → Option Value) : fnK tb Try.f91 R (.pan [(unfitV, false)]) (sEnd1 k f2) = R (.ret (.tuple #[.slice none 0 0, .bool false]) (hOf (endS tb (.pan [(unfitV, false)]) (sEnd1 k f2))) (nOf (endS tb (.pan [(unfitV, false)]) (sEnd1 k f2))) (wOf (endS tb (.pan [(unfitV, false)]) (sEnd1 k f2)))) := by kernel_rfl

noncomputable def sEnd2 (k : Nat) (b : Bool) (c : List Value) (f2 : Nat → Option Value) : Fs := ⟨slots 7 [(4, .pointer (some ⟨0, 0, none⟩)), (5, .pointer (some ⟨1, 0, none⟩))] f2, heap 2 [(0, .cells [.slice (some ⟨2, 0, none⟩) (k + 1) U] 123), (1, .cells [.bool b] 4), (2, .cells c 127)], 3, [], [.call 106 [.pointer (some ⟨0, 0, none⟩), .pointer (some ⟨1, 0, none⟩)] []]⟩
theorem end_ret (tb : Tb Try.prog 0) (R : Res → Prop) (k : Nat) (b : Bool) (c : List Value) (f2 : Nat → Option Value) : fnK tb Try.f91 R .ret (sEnd2 k b c f2) = R (.ret (.tuple #[.slice (some ⟨2, 0, none⟩) (k + 1) U, .bool b]) (hOf (endS tb .ret (sEnd2 k b c f2))) (nOf (endS tb .ret (sEnd2 k b c f2))) (wOf (endS tb .ret (sEnd2 k b c f2)))) := by kernel_rfl
theorem end_ret_get (tb : Tb Try.prog 0) (k : Nat) (b : Bool) (c : List Value) (f2 : Nat → Option Value) : (hOf (endS tb .ret (sEnd2 k b c f2))).get 2 = some (.cells c 127) := by kernel_rfl
end Go.Proofs.Ytcggcoijhdagnaa
/- DERIVED. Data: split, walked. -/
namespace Go.Proofs.Ytcggcoijhdagnaa
open Go Go.RowKit

/-- The parts of one type, as a contract. -/
def ct_partsAt (t : Int) (ps : List Pt) (h : ∀ H n, partsGo t H n partsTab = partsOut ps.length (ps.flatMap Pt.cell) H n) : Ct Try.prog 0 where
  f := 102
  res l H n := match l with | [.int .i64 t'] => bif t' == t then partsOut ps.length (ps.flatMap Pt.cell) H n else .bad "type" [] | _ => .bad "arguments" []
  ok l H n := by
    split
    · rename_i t'
      cases hb : (t' == t) with
      | false => trivial
      | true =>
        have hb : t' = t := by simpa using hb
        subst hb
        have := parts_ok t' H n
        rw [h] at this
        exact this
    · trivial
  ck l H n K := match l with | [.int .i64 t'] => (t' == t) = true ∧ K (partsOut ps.length (ps.flatMap Pt.cell) H n) | _ => False
  imp l H n K h := by
    split at h
    · obtain ⟨h1, h2⟩ := h
      simp only [h1, cond_true]; exact h2
    · exact h.elim

theorem sub_take (s : ByteArray) (x : Int) (k : Nat) (h : x = k) : Value.string (subS s (Int.toNat 0) x.toNat) = str ((bs s).take k) := by
  subst h
  show _ = Value.string ⟨((bs s).take k).toArray⟩
  congr 1
theorem sub_rest (s : ByteArray) (x : Int) (k : Nat) (h : x = k) : bs (subS s x.toNat ((s.data.size : Int)).toNat) = (bs s).drop k := by
  subst h
  rw [bs_sub, Int.toNat_natCast, Int.toNat_natCast, bs_size, List.take_length]
theorem cuts_step (ps : List Pt) (i : Nat) (h : i < ps.length) (l : Bs) : cuts (ps.drop i) l = match ps[i].cut l with
    | none => none
    | some n => (cuts (ps.drop (i + 1)) (l.drop n)).map fun x => ((l.take n, ps[i].isName) :: x.1, x.2) := by
  rw [List.drop_eq_getElem_cons h]; rfl

set_option maxRecDepth 1000000 in
set_option maxHeartbeats 4000000 in
theorem split_fn (t : Int) (ps : List Pt) (hps : 0 < ps.length) (hps2 : ps.length < 1000) (ht : ∀ H n, partsGo t H n partsTab = partsOut ps.length (ps.flatMap Pt.cell) H n) (s0 : ByteArray) (hs0 : (bs s0).length ≤ 1000000000) :
    ∃ r, FnS Try.prog 0 91 [.int .i64 t, .string s0] .e 0 r ∧ ∃ H m wr,
      (∃ out rest b, cuts ps (bs s0) = some (out, rest) ∧ r = .ret (.tuple #[.slice (some ⟨b, 0, none⟩) out.length U, .bool rest.isEmpty]) H m wr ∧ H.get b = some (.cells (out.flatMap pc) 127) ∧ b < JJ) ∨
      (cuts ps (bs s0) = none ∧ r = .ret (.tuple #[.slice none 0 0, .bool false]) H m wr) := by
  refine fn_sxR mixed (tbOf mixed [ct_partsAt t ps ht, ct_texts, ct_first]) [2, 3] Try.func91 (c := bodyOf Try.f91) (by kernel_rfl) ?_
  refine And.intro (by simp) ?_
  refine loop_go (spS ps) (fun x => ps.length - x.1) (fun x => x.1 ≤ ps.length ∧ (bs x.2.2).length ≤ 1000000000 ∧ x.2.1.length = x.1 ∧ cuts ps (bs s0) = (cuts (ps.drop x.1) (bs x.2.2)).map fun y => (x.2.1 ++ y.1, y.2)) (0, [], s0) ⟨Nat.zero_le _, hs0, rfl, by simp⟩
    (rc_slots [0, 1, 2] rfl rfl rfl (fun l e => by cases e) (by decide) (by decide) rfl rfl (fun k hk h => by omega) ⟨⟨_, rfl, .string _⟩, ⟨_, rfl, .ptr _ _ _ rfl⟩, ⟨_, rfl, .ptr _ _ _ rfl⟩, ⟨_, rfl, .sl _ _ _ _ _ rfl⟩, ⟨_, rfl, .int _ _⟩, ⟨_, rfl, .int _ _⟩, trivial⟩
      ⟨⟨by decide, _, rfl, .same rfl⟩, ⟨by decide, _, rfl, .same rfl⟩, ⟨by decide, _, rfl, .same (flat_plain _ Pt.cell_plain ps)⟩, trivial⟩ (.fn _ _ _ _ _ _ _ (.cons _ _ _ _ (.ptr _ _ _ rfl) (.cons _ _ _ _ (.ptr _ _ _ rfl) .nil)) .nil .nil)) ?_
  rintro ⟨i, acc, s⟩ f ⟨hi, hs, hacc, heq⟩
  have hi : i ≤ ps.length := hi
  have hs : (bs s).length ≤ 1000000000 := hs
  have hacc : acc.length = i := hacc
  have heq : cuts ps (bs s0) = (cuts (ps.drop i) (bs s)).map fun y => (acc ++ y.1, y.2) := heq
  have hsB : shortB s = true := by unfold shortB; rw [bs_size]; exact Nat.ble_eq_true_of_le hs
  have side : ∀ (h1 : i < ps.length), (0 + ((i : Nat) : Int).toNat * 3 + 3 ≤ (ps.flatMap Pt.cell).length ∧ List.take 3 (List.drop (0 + ((i : Nat) : Int).toNat * 3) (ps.flatMap Pt.cell)) = ps[i].cell) := fun h1 => by
    have := flat_at Pt.cell 3 Pt.cell_len ps i h1
    rw [Int.toNat_natCast, Nat.zero_add]; exact this
  cases acc with
  | nil =>
    refine sx_ok (tbOf mixed [ct_partsAt t ps ht, ct_texts, ct_first]) [2] 0 _ none mixed _ _ _ ?_
    refine ifK (fun h1 => ?_) (fun h1 => ?_)
    · have h1 : i < ps.length := by have := of_decide_eq_true h1; omega
      have hst := cuts_step ps i h1 (bs s)
      have hsd := side h1
      refine ifK (fun _ => ?_) (fun h2 => absurd h2 (by simp [inI]; omega))
      cases hp : ps[i] with
      | nm =>
        rw [hp] at hst hsd
        refine Exists.intro 0 (Exists.intro true (Exists.intro false (And.intro hsd ?_)))
        refine And.intro hsB ?_
        refine ifK (fun h3 => ?_) (fun h3 => ?_)
        · obtain ⟨k, hk⟩ := Option.isSome_iff_exists.1 h3
          have hcut : Pt.nm.cut (bs s) = some k := hk
          have hkn : frontN (bs s) = k := by simp [frontN, hk]
          have hkl := front_le hk
          have hx : ((subS s 0 (frontN (bs s))).data.size : Int) = (k : Nat) := by rw [bs_size, bs_sub, hkn]; simp; omega
          refine And.intro (by kernel_rfl) ?_
          refine And.intro (by rw [hx]; simp only [inLH, bs_size, Bool.and_eq_true, decide_eq_true_eq] <;> omega) ?_
          refine And.intro (by rw [hx]; simp only [inLH, bs_size, Bool.and_eq_true, decide_eq_true_eq] <;> omega) ?_
          refine ⟨(i + 1, [] ++ [((bs s).take (k), true)], subS s (((subS s 0 (frontN (bs s))).data.size : Int)).toNat ((s.data.size : Int)).toNat), ⟨h1, ?_, ?_, ?_⟩, ?_, ?_⟩
          · show (bs (subS s _ _)).length ≤ _; rw [sub_rest s _ _ hx]; simp <;> omega
          · simp only [List.length_append, hacc]; rfl
          · show cuts ps (bs s0) = (cuts (ps.drop (i + 1)) (bs (subS s _ _))).map _; rw [sub_rest s _ _ hx, heq, hst, hcut]; simp only [Option.map_map]; exact congrArg (fun g => Option.map g _) (funext fun y => by simp [Pt.isName])
          · show ps.length - (i + 1) < ps.length - i; omega
          · refine rc_slots [0, 1, 2, 5] rfl rfl rfl (fun l e => by cases e) (by decide) (by decide) rfl rfl (fun k hk h => by omega) ⟨⟨_, rfl, .string _⟩, ⟨_, rfl, .ptr _ _ _ rfl⟩, ⟨_, rfl, .ptr _ _ _ rfl⟩, ⟨_, rfl, .sl _ _ _ _ _ rfl⟩, ⟨_, rfl, .int _ _⟩, slot_int rfl (by rw [wrapN (by omega) (by omega)]; omega), trivial⟩ ⟨⟨by decide, _, rfl, ?_⟩, ⟨by decide, _, rfl, .same rfl⟩, ⟨by decide, _, rfl, .same (flat_plain _ Pt.cell_plain ps)⟩, ⟨by decide, _, rfl, ?_⟩, trivial⟩ (.fn _ _ _ _ _ _ _ (.cons _ _ _ _ (.ptr _ _ _ rfl) (.cons _ _ _ _ (.ptr _ _ _ rfl) .nil)) .nil .nil)
            · exact ro_slice rfl
            · refine ro_eq ?_ (flat_plain pc pc_plain _)
              show [Value.string (subS s (Int.toNat 0) (((subS s 0 (frontN (bs s))).data.size : Int)).toNat), .bool true] = _
              rw [sub_take s _ _ hx]; rfl
        · have hcut : Pt.nm.cut (bs s) = none := by have : (front (bs s)).isSome = false := h3; simpa [Pt.cut] using this
          have hn : cuts ps (bs s0) = none := by rw [heq, hst, hcut]; rfl
          refine And.intro rfl (rc_end (rc_slots [0, 1] (d := 7) (d2 := 2) (lv := [(4, .pointer (some ⟨0, 0, none⟩)), (5, .pointer (some ⟨1, 0, none⟩))]) (bs := [(0, .cells [.slice none 0 0] 123), (1, .cells [.bool false] 4)]) (W := []) (m := 2) (df := [.call 106 [.pointer (some ⟨0, 0, none⟩), .pointer (some ⟨1, 0, none⟩)] []]) rfl rfl rfl (fun l e => by cases e) (by decide) (by decide) rfl rfl (fun k hk h => by omega) ⟨⟨_, rfl, .ptr _ _ _ rfl⟩, ⟨_, rfl, .ptr _ _ _ rfl⟩, trivial⟩ ⟨⟨by decide, _, rfl, .same rfl⟩, ⟨by decide, _, rfl, .same rfl⟩, trivial⟩ (.fn _ _ _ _ _ _ _ (.cons _ _ _ _ (.ptr _ _ _ rfl) (.cons _ _ _ _ (.ptr _ _ _ rfl) .nil)) .nil .nil)) (fun f2 => ?_))
          refine Eq.mpr (end_pan0 _ _ f2) ?_
          exact Exists.intro _ (Exists.intro _ (Exists.intro _ (Or.inr (And.intro hn rfl))))
      | rest =>
        rw [hp] at hst hsd
        refine Exists.intro 0 (Exists.intro false (Exists.intro true (And.intro hsd ?_)))
        refine And.intro hsB ?_
        refine ifK (fun h3 => ?_) (fun h3 => ?_)
        · have hcut : Pt.rest.cut (bs s) = some (bs s).length := by have h3 : texts (bs s) = true := h3; simp [Pt.cut, h3]
          have hx : (s.data.size : Int) = ((bs s).length : Nat) := by rw [bs_size]
          refine And.intro (by kernel_rfl) ?_
          refine And.intro (by rw [hx]; simp only [inLH, bs_size, Bool.and_eq_true, decide_eq_true_eq] <;> omega) ?_
          refine And.intro (by rw [hx]; simp only [inLH, bs_size, Bool.and_eq_true, decide_eq_true_eq] <;> omega) ?_
          refine ⟨(i + 1, [] ++ [((bs s).take ((bs s).length), false)], subS s ((s.data.size : Int)).toNat ((s.data.size : Int)).toNat), ⟨h1, ?_, ?_, ?_⟩, ?_, ?_⟩
          · show (bs (subS s _ _)).length ≤ _; rw [sub_rest s _ _ hx]; simp <;> omega
          · simp only [List.length_append, hacc]; rfl
          · show cuts ps (bs s0) = (cuts (ps.drop (i + 1)) (bs (subS s _ _))).map _; rw [sub_rest s _ _ hx, heq, hst, hcut]; simp only [Option.map_map]; exact congrArg (fun g => Option.map g _) (funext fun y => by simp [Pt.isName])
          · show ps.length - (i + 1) < ps.length - i; omega
          · refine rc_slots [0, 1, 2, 5] rfl rfl rfl (fun l e => by cases e) (by decide) (by decide) rfl rfl (fun k hk h => by omega) ⟨⟨_, rfl, .string _⟩, ⟨_, rfl, .ptr _ _ _ rfl⟩, ⟨_, rfl, .ptr _ _ _ rfl⟩, ⟨_, rfl, .sl _ _ _ _ _ rfl⟩, ⟨_, rfl, .int _ _⟩, slot_int rfl (by rw [wrapN (by omega) (by omega)]; omega), trivial⟩ ⟨⟨by decide, _, rfl, ?_⟩, ⟨by decide, _, rfl, .same rfl⟩, ⟨by decide, _, rfl, .same (flat_plain _ Pt.cell_plain ps)⟩, ⟨by decide, _, rfl, ?_⟩, trivial⟩ (.fn _ _ _ _ _ _ _ (.cons _ _ _ _ (.ptr _ _ _ rfl) (.cons _ _ _ _ (.ptr _ _ _ rfl) .nil)) .nil .nil)
            · exact ro_slice rfl
            · refine ro_eq ?_ (flat_plain pc pc_plain _)
              show [Value.string (subS s (Int.toNat 0) ((s.data.size : Int)).toNat), .bool false] = _
              rw [sub_take s _ _ hx]; rfl
        · have hcut : Pt.rest.cut (bs s) = none := by have h3 : texts (bs s) = false := h3; simp [Pt.cut, h3]
          have hn : cuts ps (bs s0) = none := by rw [heq, hst, hcut]; rfl
          refine And.intro rfl (rc_end (rc_slots [0, 1] (d := 7) (d2 := 2) (lv := [(4, .pointer (some ⟨0, 0, none⟩)), (5, .pointer (some ⟨1, 0, none⟩))]) (bs := [(0, .cells [.slice none 0 0] 123), (1, .cells [.bool false] 4)]) (W := []) (m := 2) (df := [.call 106 [.pointer (some ⟨0, 0, none⟩), .pointer (some ⟨1, 0, none⟩)] []]) rfl rfl rfl (fun l e => by cases e) (by decide) (by decide) rfl rfl (fun k hk h => by omega) ⟨⟨_, rfl, .ptr _ _ _ rfl⟩, ⟨_, rfl, .ptr _ _ _ rfl⟩, trivial⟩ ⟨⟨by decide, _, rfl, .same rfl⟩, ⟨by decide, _, rfl, .same rfl⟩, trivial⟩ (.fn _ _ _ _ _ _ _ (.cons _ _ _ _ (.ptr _ _ _ rfl) (.cons _ _ _ _ (.ptr _ _ _ rfl) .nil)) .nil .nil)) (fun f2 => ?_))
          refine Eq.mpr (end_pan0 _ _ f2) ?_
          exact Exists.intro _ (Exists.intro _ (Exists.intro _ (Or.inr (And.intro hn rfl))))
      | sz k =>
        rw [hp] at hst hsd
        refine Exists.intro (k : Int) (Exists.intro false (Exists.intro false (And.intro hsd ?_)))
        refine ifK (fun h3 => ?_) (fun h3 => ?_)
        · have h3 : ¬ k ≤ (bs s).length := by have := of_decide_eq_true h3; rw [bs_size] at this; omega
          have hcut : (Pt.sz k).cut (bs s) = none := by simp [Pt.cut, h3]
          have hn : cuts ps (bs s0) = none := by rw [heq, hst, hcut]; rfl
          refine And.intro rfl (rc_end (rc_slots [0, 1] (d := 7) (d2 := 2) (lv := [(4, .pointer (some ⟨0, 0, none⟩)), (5, .pointer (some ⟨1, 0, none⟩))]) (bs := [(0, .cells [.slice none 0 0] 123), (1, .cells [.bool false] 4)]) (W := []) (m := 2) (df := [.call 106 [.pointer (some ⟨0, 0, none⟩), .pointer (some ⟨1, 0, none⟩)] []]) rfl rfl rfl (fun l e => by cases e) (by decide) (by decide) rfl rfl (fun k hk h => by omega) ⟨⟨_, rfl, .ptr _ _ _ rfl⟩, ⟨_, rfl, .ptr _ _ _ rfl⟩, trivial⟩ ⟨⟨by decide, _, rfl, .same rfl⟩, ⟨by decide, _, rfl, .same rfl⟩, trivial⟩ (.fn _ _ _ _ _ _ _ (.cons _ _ _ _ (.ptr _ _ _ rfl) (.cons _ _ _ _ (.ptr _ _ _ rfl) .nil)) .nil .nil)) (fun f2 => ?_))
          refine Eq.mpr (end_pan0 _ _ f2) ?_
          exact Exists.intro _ (Exists.intro _ (Exists.intro _ (Or.inr (And.intro hn rfl))))
        · have h3 : k ≤ (bs s).length := by have := of_decide_eq_false h3; rw [bs_size] at this; omega
          have hcut : (Pt.sz k).cut (bs s) = some k := by simp [Pt.cut, h3]
          have hx : (k : Int) = (k : Nat) := rfl
          refine And.intro (by kernel_rfl) ?_
          refine And.intro (by rw [hx]; simp only [inLH, bs_size, Bool.and_eq_true, decide_eq_true_eq] <;> omega) ?_
          refine And.intro (by rw [hx]; simp only [inLH, bs_size, Bool.and_eq_true, decide_eq_true_eq] <;> omega) ?_
          refine ⟨(i + 1, [] ++ [((bs s).take (k), false)], subS s ((k : Int)).toNat ((s.data.size : Int)).toNat), ⟨h1, ?_, ?_, ?_⟩, ?_, ?_⟩
          · show (bs (subS s _ _)).length ≤ _; rw [sub_rest s _ _ hx]; simp <;> omega
          · simp only [List.length_append, hacc]; rfl
          · show cuts ps (bs s0) = (cuts (ps.drop (i + 1)) (bs (subS s _ _))).map _; rw [sub_rest s _ _ hx, heq, hst, hcut]; simp only [Option.map_map]; exact congrArg (fun g => Option.map g _) (funext fun y => by simp [Pt.isName])
          · show ps.length - (i + 1) < ps.length - i; omega
          · refine rc_slots [0, 1, 2, 5] rfl rfl rfl (fun l e => by cases e) (by decide) (by decide) rfl rfl (fun k hk h => by omega) ⟨⟨_, rfl, .string _⟩, ⟨_, rfl, .ptr _ _ _ rfl⟩, ⟨_, rfl, .ptr _ _ _ rfl⟩, ⟨_, rfl, .sl _ _ _ _ _ rfl⟩, ⟨_, rfl, .int _ _⟩, slot_int rfl (by rw [wrapN (by omega) (by omega)]; omega), trivial⟩ ⟨⟨by decide, _, rfl, ?_⟩, ⟨by decide, _, rfl, .same rfl⟩, ⟨by decide, _, rfl, .same (flat_plain _ Pt.cell_plain ps)⟩, ⟨by decide, _, rfl, ?_⟩, trivial⟩ (.fn _ _ _ _ _ _ _ (.cons _ _ _ _ (.ptr _ _ _ rfl) (.cons _ _ _ _ (.ptr _ _ _ rfl) .nil)) .nil .nil)
            · exact ro_slice rfl
            · refine ro_eq ?_ (flat_plain pc pc_plain _)
              show [Value.string (subS s (Int.toNat 0) ((k : Int)).toNat), .bool false] = _
              rw [sub_take s _ _ hx]; rfl
    · have h1 : ¬ i < ps.length := by have := of_decide_eq_false h1; omega
      exact absurd hacc (by simp; omega)
  | cons a l =>
    refine sx_ok (tbOf mixed [ct_partsAt t ps ht, ct_texts, ct_first]) [2, 3] 0 _ none mixed _ _ _ ?_
    refine ifK (fun h1 => ?_) (fun h1 => ?_)
    · have h1 : i < ps.length := by have := of_decide_eq_true h1; omega
      have hst := cuts_step ps i h1 (bs s)
      have hsd := side h1
      refine ifK (fun _ => ?_) (fun h2 => absurd h2 (by simp [inI]; omega))
      cases hp : ps[i] with
      | nm =>
        rw [hp] at hst hsd
        refine Exists.intro 0 (Exists.intro true (Exists.intro false (And.intro hsd ?_)))
        refine And.intro hsB ?_
        refine ifK (fun h3 => ?_) (fun h3 => ?_)
        · obtain ⟨k, hk⟩ := Option.isSome_iff_exists.1 h3
          have hcut : Pt.nm.cut (bs s) = some k := hk
          have hkn : frontN (bs s) = k := by simp [frontN, hk]
          have hkl := front_le hk
          have hx : ((subS s 0 (frontN (bs s))).data.size : Int) = (k : Nat) := by rw [bs_size, bs_sub, hkn]; simp; omega
          refine And.intro (by kernel_rfl) ?_
          refine And.intro (by rw [hx]; simp only [inLH, bs_size, Bool.and_eq_true, decide_eq_true_eq] <;> omega) ?_
          refine And.intro (by rw [flat_length pc 2 pc_len]; have hT : (Try.prog.types[127]).size = 2 := (by kernel_rfl); have hB : (Try.prog.types[127]).bytes = 24 := (by kernel_rfl); have hl : l.length + 1 = i := hacc; simp [oneL, Value.oneCell', hT, hB]; omega) ?_
          refine And.intro (by rw [hx]; simp only [inLH, bs_size, Bool.and_eq_true, decide_eq_true_eq] <;> omega) ?_
          refine ⟨(i + 1, (a :: l) ++ [((bs s).take (k), true)], subS s (((subS s 0 (frontN (bs s))).data.size : Int)).toNat ((s.data.size : Int)).toNat), ⟨h1, ?_, ?_, ?_⟩, ?_, ?_⟩
          · show (bs (subS s _ _)).length ≤ _; rw [sub_rest s _ _ hx]; simp <;> omega
          · simp only [List.length_append, hacc]; rfl
          · show cuts ps (bs s0) = (cuts (ps.drop (i + 1)) (bs (subS s _ _))).map _; rw [sub_rest s _ _ hx, heq, hst, hcut]; simp only [Option.map_map]; exact congrArg (fun g => Option.map g _) (funext fun y => by simp [Pt.isName])
          · show ps.length - (i + 1) < ps.length - i; omega
          · refine rc_slots [0, 1, 2, 6] rfl rfl rfl (fun l e => by cases e) (by decide) (by decide) rfl rfl (fun k hk h => by omega) ⟨⟨_, rfl, .string _⟩, ⟨_, rfl, .ptr _ _ _ rfl⟩, ⟨_, rfl, .ptr _ _ _ rfl⟩, ⟨_, rfl, .sl _ _ _ _ _ rfl⟩, ⟨_, rfl, .int _ _⟩, slot_int rfl (by rw [wrapN (by omega) (by omega)]; omega), trivial⟩ ⟨⟨by decide, _, rfl, ?_⟩, ⟨by decide, _, rfl, .same rfl⟩, ⟨by decide, _, rfl, .same (flat_plain _ Pt.cell_plain ps)⟩, ⟨by decide, _, rfl, ?_⟩, trivial⟩ (.fn _ _ _ _ _ _ _ (.cons _ _ _ _ (.ptr _ _ _ rfl) (.cons _ _ _ _ (.ptr _ _ _ rfl) .nil)) .nil .nil)
            · have : (l ++ [((bs s).take (k), true)]).length = l.length + 1 := by simp
              show RO _ _ _ (.cells [.slice _ ((l ++ [_]).length + 1) U] _)
              rw [this]
              exact ro_slice rfl
            · refine ro_eq ?_ (flat_plain pc pc_plain _)
              show List.take ((l.length + 1) * 2) ((a :: l).flatMap pc) ++ [Value.string (subS s (Int.toNat 0) (((subS s 0 (frontN (bs s))).data.size : Int)).toNat), .bool true] = _
              rw [sub_take s _ _ hx, List.take_of_length_le (by rw [flat_length pc 2 pc_len]; simp)]
              show _ = ((a :: l) ++ [_]).flatMap pc
              rw [flat_snoc]; rfl
        · have hcut : Pt.nm.cut (bs s) = none := by have : (front (bs s)).isSome = false := h3; simpa [Pt.cut] using this
          have hn : cuts ps (bs s0) = none := by rw [heq, hst, hcut]; rfl
          refine And.intro rfl (rc_end (rc_slots [0, 1, 3] (d := 7) (d2 := 2) (lv := [(4, .pointer (some ⟨0, 0, none⟩)), (5, .pointer (some ⟨1, 0, none⟩))]) (bs := [(0, .cells [.slice (some ⟨2, 0, none⟩) (l.length + 1) U] 123), (1, .cells [.bool false] 4)]) (W := []) (m := 3) (df := [.call 106 [.pointer (some ⟨0, 0, none⟩), .pointer (some ⟨1, 0, none⟩)] []]) rfl rfl rfl (fun l e => by cases e) (by decide) (by decide) rfl rfl (fun k hk h => by omega) ⟨⟨_, rfl, .ptr _ _ _ rfl⟩, ⟨_, rfl, .ptr _ _ _ rfl⟩, trivial⟩ ⟨⟨by decide, _, rfl, ro_slice rfl⟩, ⟨by decide, _, rfl, .same rfl⟩, trivial⟩ (.fn _ _ _ _ _ _ _ (.cons _ _ _ _ (.ptr _ _ _ rfl) (.cons _ _ _ _ (.ptr _ _ _ rfl) .nil)) .nil .nil)) (fun f2 => ?_))
          refine Eq.mpr (end_pan1 _ _ l.length f2) ?_
          exact Exists.intro _ (Exists.intro _ (Exists.intro _ (Or.inr (And.intro hn rfl))))
      | rest =>
        rw [hp] at hst hsd
        refine Exists.intro 0 (Exists.intro false (Exists.intro true (And.intro hsd ?_)))
        refine And.intro hsB ?_
        refine ifK (fun h3 => ?_) (fun h3 => ?_)
        · have hcut : Pt.rest.cut (bs s) = some (bs s).length := by have h3 : texts (bs s) = true := h3; simp [Pt.cut, h3]
          have hx : (s.data.size : Int) = ((bs s).length : Nat) := by rw [bs_size]
          refine And.intro (by kernel_rfl) ?_
          refine And.intro (by rw [hx]; simp only [inLH, bs_size, Bool.and_eq_true, decide_eq_true_eq] <;> omega) ?_
          refine And.intro (by rw [flat_length pc 2 pc_len]; have hT : (Try.prog.types[127]).size = 2 := (by kernel_rfl); have hB : (Try.prog.types[127]).bytes = 24 := (by kernel_rfl); have hl : l.length + 1 = i := hacc; simp [oneL, Value.oneCell', hT, hB]; omega) ?_
          refine And.intro (by rw [hx]; simp only [inLH, bs_size, Bool.and_eq_true, decide_eq_true_eq] <;> omega) ?_
          refine ⟨(i + 1, (a :: l) ++ [((bs s).take ((bs s).length), false)], subS s ((s.data.size : Int)).toNat ((s.data.size : Int)).toNat), ⟨h1, ?_, ?_, ?_⟩, ?_, ?_⟩
          · show (bs (subS s _ _)).length ≤ _; rw [sub_rest s _ _ hx]; simp <;> omega
          · simp only [List.length_append, hacc]; rfl
          · show cuts ps (bs s0) = (cuts (ps.drop (i + 1)) (bs (subS s _ _))).map _; rw [sub_rest s _ _ hx, heq, hst, hcut]; simp only [Option.map_map]; exact congrArg (fun g => Option.map g _) (funext fun y => by simp [Pt.isName])
          · show ps.length - (i + 1) < ps.length - i; omega
          · refine rc_slots [0, 1, 2, 6] rfl rfl rfl (fun l e => by cases e) (by decide) (by decide) rfl rfl (fun k hk h => by omega) ⟨⟨_, rfl, .string _⟩, ⟨_, rfl, .ptr _ _ _ rfl⟩, ⟨_, rfl, .ptr _ _ _ rfl⟩, ⟨_, rfl, .sl _ _ _ _ _ rfl⟩, ⟨_, rfl, .int _ _⟩, slot_int rfl (by rw [wrapN (by omega) (by omega)]; omega), trivial⟩ ⟨⟨by decide, _, rfl, ?_⟩, ⟨by decide, _, rfl, .same rfl⟩, ⟨by decide, _, rfl, .same (flat_plain _ Pt.cell_plain ps)⟩, ⟨by decide, _, rfl, ?_⟩, trivial⟩ (.fn _ _ _ _ _ _ _ (.cons _ _ _ _ (.ptr _ _ _ rfl) (.cons _ _ _ _ (.ptr _ _ _ rfl) .nil)) .nil .nil)
            · have : (l ++ [((bs s).take ((bs s).length), false)]).length = l.length + 1 := by simp
              show RO _ _ _ (.cells [.slice _ ((l ++ [_]).length + 1) U] _)
              rw [this]
              exact ro_slice rfl
            · refine ro_eq ?_ (flat_plain pc pc_plain _)
              show List.take ((l.length + 1) * 2) ((a :: l).flatMap pc) ++ [Value.string (subS s (Int.toNat 0) ((s.data.size : Int)).toNat), .bool false] = _
              rw [sub_take s _ _ hx, List.take_of_length_le (by rw [flat_length pc 2 pc_len]; simp)]
              show _ = ((a :: l) ++ [_]).flatMap pc
              rw [flat_snoc]; rfl
        · have hcut : Pt.rest.cut (bs s) = none := by have h3 : texts (bs s) = false := h3; simp [Pt.cut, h3]
          have hn : cuts ps (bs s0) = none := by rw [heq, hst, hcut]; rfl
          refine And.intro rfl (rc_end (rc_slots [0, 1, 3] (d := 7) (d2 := 2) (lv := [(4, .pointer (some ⟨0, 0, none⟩)), (5, .pointer (some ⟨1, 0, none⟩))]) (bs := [(0, .cells [.slice (some ⟨2, 0, none⟩) (l.length + 1) U] 123), (1, .cells [.bool false] 4)]) (W := []) (m := 3) (df := [.call 106 [.pointer (some ⟨0, 0, none⟩), .pointer (some ⟨1, 0, none⟩)] []]) rfl rfl rfl (fun l e => by cases e) (by decide) (by decide) rfl rfl (fun k hk h => by omega) ⟨⟨_, rfl, .ptr _ _ _ rfl⟩, ⟨_, rfl, .ptr _ _ _ rfl⟩, trivial⟩ ⟨⟨by decide, _, rfl, ro_slice rfl⟩, ⟨by decide, _, rfl, .same rfl⟩, trivial⟩ (.fn _ _ _ _ _ _ _ (.cons _ _ _ _ (.ptr _ _ _ rfl) (.cons _ _ _ _ (.ptr _ _ _ rfl) .nil)) .nil .nil)) (fun f2 => ?_))
          refine Eq.mpr (end_pan1 _ _ l.length f2) ?_
          exact Exists.intro _ (Exists.intro _ (Exists.intro _ (Or.inr (And.intro hn rfl))))
      | sz k =>
        rw [hp] at hst hsd
        refine Exists.intro (k : Int) (Exists.intro false (Exists.intro false (And.intro hsd ?_)))
        refine ifK (fun h3 => ?_) (fun h3 => ?_)
        · have h3 : ¬ k ≤ (bs s).length := by have := of_decide_eq_true h3; rw [bs_size] at this; omega
          have hcut : (Pt.sz k).cut (bs s) = none := by simp [Pt.cut, h3]
          have hn : cuts ps (bs s0) = none := by rw [heq, hst, hcut]; rfl
          refine And.intro rfl (rc_end (rc_slots [0, 1, 3] (d := 7) (d2 := 2) (lv := [(4, .pointer (some ⟨0, 0, none⟩)), (5, .pointer (some ⟨1, 0, none⟩))]) (bs := [(0, .cells [.slice (some ⟨2, 0, none⟩) (l.length + 1) U] 123), (1, .cells [.bool false] 4)]) (W := []) (m := 3) (df := [.call 106 [.pointer (some ⟨0, 0, none⟩), .pointer (some ⟨1, 0, none⟩)] []]) rfl rfl rfl (fun l e => by cases e) (by decide) (by decide) rfl rfl (fun k hk h => by omega) ⟨⟨_, rfl, .ptr _ _ _ rfl⟩, ⟨_, rfl, .ptr _ _ _ rfl⟩, trivial⟩ ⟨⟨by decide, _, rfl, ro_slice rfl⟩, ⟨by decide, _, rfl, .same rfl⟩, trivial⟩ (.fn _ _ _ _ _ _ _ (.cons _ _ _ _ (.ptr _ _ _ rfl) (.cons _ _ _ _ (.ptr _ _ _ rfl) .nil)) .nil .nil)) (fun f2 => ?_))
          refine Eq.mpr (end_pan1 _ _ l.length f2) ?_
          exact Exists.intro _ (Exists.intro _ (Exists.intro _ (Or.inr (And.intro hn rfl))))
        · have h3 : k ≤ (bs s).length := by have := of_decide_eq_false h3; rw [bs_size] at this; omega
          have hcut : (Pt.sz k).cut (bs s) = some k := by simp [Pt.cut, h3]
          have hx : (k : Int) = (k : Nat) := rfl
          refine And.intro (by kernel_rfl) ?_
          refine And.intro (by rw [hx]; simp only [inLH, bs_size, Bool.and_eq_true, decide_eq_true_eq] <;> omega) ?_
          refine And.intro (by rw [flat_length pc 2 pc_len]; have hT : (Try.prog.types[127]).size = 2 := (by kernel_rfl); have hB : (Try.prog.types[127]).bytes = 24 := (by kernel_rfl); have hl : l.length + 1 = i := hacc; simp [oneL, Value.oneCell', hT, hB]; omega) ?_
          refine And.intro (by rw [hx]; simp only [inLH, bs_size, Bool.and_eq_true, decide_eq_true_eq] <;> omega) ?_
          refine ⟨(i + 1, (a :: l) ++ [((bs s).take (k), false)], subS s ((k : Int)).toNat ((s.data.size : Int)).toNat), ⟨h1, ?_, ?_, ?_⟩, ?_, ?_⟩
          · show (bs (subS s _ _)).length ≤ _; rw [sub_rest s _ _ hx]; simp <;> omega
          · simp only [List.length_append, hacc]; rfl
          · show cuts ps (bs s0) = (cuts (ps.drop (i + 1)) (bs (subS s _ _))).map _; rw [sub_rest s _ _ hx, heq, hst, hcut]; simp only [Option.map_map]; exact congrArg (fun g => Option.map g _) (funext fun y => by simp [Pt.isName])
          · show ps.length - (i + 1) < ps.length - i; omega
          · refine rc_slots [0, 1, 2, 6] rfl rfl rfl (fun l e => by cases e) (by decide) (by decide) rfl rfl (fun k hk h => by omega) ⟨⟨_, rfl, .string _⟩, ⟨_, rfl, .ptr _ _ _ rfl⟩, ⟨_, rfl, .ptr _ _ _ rfl⟩, ⟨_, rfl, .sl _ _ _ _ _ rfl⟩, ⟨_, rfl, .int _ _⟩, slot_int rfl (by rw [wrapN (by omega) (by omega)]; omega), trivial⟩ ⟨⟨by decide, _, rfl, ?_⟩, ⟨by decide, _, rfl, .same rfl⟩, ⟨by decide, _, rfl, .same (flat_plain _ Pt.cell_plain ps)⟩, ⟨by decide, _, rfl, ?_⟩, trivial⟩ (.fn _ _ _ _ _ _ _ (.cons _ _ _ _ (.ptr _ _ _ rfl) (.cons _ _ _ _ (.ptr _ _ _ rfl) .nil)) .nil .nil)
            · have : (l ++ [((bs s).take (k), false)]).length = l.length + 1 := by simp
              show RO _ _ _ (.cells [.slice _ ((l ++ [_]).length + 1) U] _)
              rw [this]
              exact ro_slice rfl
            · refine ro_eq ?_ (flat_plain pc pc_plain _)
              show List.take ((l.length + 1) * 2) ((a :: l).flatMap pc) ++ [Value.string (subS s (Int.toNat 0) ((k : Int)).toNat), .bool false] = _
              rw [sub_take s _ _ hx, List.take_of_length_le (by rw [flat_length pc 2 pc_len]; simp)]
              show _ = ((a :: l) ++ [_]).flatMap pc
              rw [flat_snoc]; rfl
    · have h1 : ¬ i < ps.length := by have := of_decide_eq_false h1; omega
      have hc : cuts ps (bs s0) = some (a :: l, bs s) := by rw [heq, List.drop_eq_nil_of_le (by omega)]; simp [cuts]
      refine And.intro rfl ?_
      refine (rc_end (rc_slots [0, 1, 3] (d := 7) (d2 := 2) (lv := [(4, .pointer (some ⟨0, 0, none⟩)), (5, .pointer (some ⟨1, 0, none⟩))]) (bs := [(0, .cells [.slice (some ⟨2, 0, none⟩) (l.length + 1) U] 123), (1, .cells [.bool (s.data.toList == [])] 4), (2, .cells ((a :: l).flatMap pc) 127)]) (W := []) (m := 3) (df := [.call 106 [.pointer (some ⟨0, 0, none⟩), .pointer (some ⟨1, 0, none⟩)] []]) rfl rfl rfl (fun l e => by cases e) (by decide) (by decide) rfl rfl (fun k hk h => by omega) ⟨⟨_, rfl, .ptr _ _ _ rfl⟩, ⟨_, rfl, .ptr _ _ _ rfl⟩, trivial⟩ ⟨⟨by decide, _, rfl, ro_slice rfl⟩, ⟨by decide, _, rfl, .same rfl⟩, ⟨by decide, _, rfl, .same (flat_plain pc pc_plain _)⟩, trivial⟩ (.fn _ _ _ _ _ _ _ (.cons _ _ _ _ (.ptr _ _ _ rfl) (.cons _ _ _ _ (.ptr _ _ _ rfl) .nil)) .nil .nil)) (fun f2 => ?_))
      refine Eq.mpr (end_ret _ _ l.length (s.data.toList == []) ((a :: l).flatMap pc) f2) ?_
      have hem : (bs s).isEmpty = (s.data.toList == []) := by show _ = (bs s == []); cases bs s <;> rfl
      refine ⟨?zH, ?zm, ?zw, Or.inl ⟨a :: l, bs s, 2, hc, ?zg, ?zh, by decide⟩⟩
      case zg => rw [hem]; exact rfl
      case zh => exact end_ret_get _ _ _ _ _
end Go.Proofs.Ytcggcoijhdagnaa
/- DERIVED. What is known of the document's names, as contracts. -/
namespace Go.Proofs.Ytcggcoijhdagnaa
open Go Go.RowKit
def ct_rcheck : Ct Try.prog 0 := Ct.str1 55 (fun s => .int .i64 (labels (bs s)).2) (fun _ => rfl) (fun s w hs => by have := refCheck_any (bs s) w hs; rwa [str_bs] at this)
end Go.Proofs.Ytcggcoijhdagnaa
/- DERIVED. Data: split as a contract. -/
namespace Go.Proofs.Ytcggcoijhdagnaa
open Go Go.RowKit

/-- The parts of a type that is known. -/
def ptsT (t : Int) : Option (List Pt) :=
  bif t == 1 then some [.sz 4] else bif t == 28 then some [.sz 16] else bif t == 2 then some [.nm] else bif t == 5 then some [.nm] else bif t == 12 then some [.nm] else bif t == 15 then some [.sz 2, .nm]
  else bif t == 6 then some [.nm, .nm, .sz 20] else bif t == 16 then some [.rest] else none
theorem ptsT_some {t : Int} {ps : List Pt} (h : ptsT t = some ps) : 0 < ps.length ∧ ps.length < 1000 ∧ ∀ H n, partsGo t H n partsTab = partsOut ps.length (ps.flatMap Pt.cell) H n := by
  unfold ptsT at h
  unfold partsTab
  simp only [partsGo]
  cases h1 : (t == 1) with
  | true => rw [h1] at h; cases h; exact ⟨by decide, by decide, fun _ _ => rfl⟩
  | false =>
  cases h2 : (t == 28) with
  | true => rw [h1, h2] at h; cases h; exact ⟨by decide, by decide, fun _ _ => rfl⟩
  | false =>
  cases h3 : (t == 2) with
  | true => rw [h1, h2, h3] at h; cases h; exact ⟨by decide, by decide, fun _ _ => rfl⟩
  | false =>
  cases h4 : (t == 5) with
  | true => rw [h1, h2, h3, h4] at h; cases h; exact ⟨by decide, by decide, fun _ _ => rfl⟩
  | false =>
  cases h5 : (t == 12) with
  | true => rw [h1, h2, h3, h4, h5] at h; cases h; exact ⟨by decide, by decide, fun _ _ => rfl⟩
  | false =>
  cases h6 : (t == 15) with
  | true => rw [h1, h2, h3, h4, h5, h6] at h; cases h; exact ⟨by decide, by decide, fun _ _ => rfl⟩
  | false =>
  cases h7 : (t == 6) with
  | true => rw [h1, h2, h3, h4, h5, h6, h7] at h; cases h; exact ⟨by decide, by decide, fun _ _ => rfl⟩
  | false =>
  cases h8 : (t == 16) with
  | true => rw [h1, h2, h3, h4, h5, h6, h7, h8] at h; cases h; exact ⟨by decide, by decide, fun _ _ => rfl⟩
  | false => rw [h1, h2, h3, h4, h5, h6, h7, h8] at h; cases h
theorem ptsT_none {t : Int} (h : ptsT t = none) : ∀ H n, partsGo t H n partsTab = .ret (.tuple #[.slice none 0 0, .bool false]) H n [] := by
  unfold ptsT at h
  unfold partsTab
  simp only [partsGo]
  cases h1 : (t == 1) with
  | true => rw [h1] at h; cases h
  | false =>
  cases h2 : (t == 28) with
  | true => rw [h1, h2] at h; cases h
  | false =>
  cases h3 : (t == 2) with
  | true => rw [h1, h2, h3] at h; cases h
  | false =>
  cases h4 : (t == 5) with
  | true => rw [h1, h2, h3, h4] at h; cases h
  | false =>
  cases h5 : (t == 12) with
  | true => rw [h1, h2, h3, h4, h5] at h; cases h
  | false =>
  cases h6 : (t == 15) with
  | true => rw [h1, h2, h3, h4, h5, h6] at h; cases h
  | false =>
  cases h7 : (t == 6) with
  | true => rw [h1, h2, h3, h4, h5, h6, h7] at h; cases h
  | false =>
  cases h8 : (t == 16) with
  | true => rw [h1, h2, h3, h4, h5, h6, h7, h8] at h; cases h
  | false => exact fun _ _ => rfl

/-- The contract of 'parts' for a type that is not known. -/
def ct_partsNo (t : Int) (h : ∀ H n, partsGo t H n partsTab = .ret (.tuple #[.slice none 0 0, .bool false]) H n []) : Ct Try.prog 0 where
  f := 102
  res l H n := match l with | [.int .i64 t'] => bif t' == t then .ret (.tuple #[.slice none 0 0, .bool false]) H n [] else .bad "type" [] | _ => .bad "arguments" []
  ok l H n := by
    split
    · rename_i t'
      cases hb : (t' == t) with
      | false => trivial
      | true =>
        have hb : t' = t := by simpa using hb
        subst hb
        have := parts_ok t' H n
        rw [h] at this
        exact this
    · trivial
  ck l H n K := match l with | [.int .i64 t'] => (t' == t) = true ∧ K (.ret (.tuple #[.slice none 0 0, .bool false]) H n []) | _ => False
  imp l H n K h := by
    split at h
    · obtain ⟨h1, h2⟩ := h
      simp only [h1, cond_true]; exact h2
    · exact h.elim

set_option maxRecDepth 1000000 in
theorem splitNo_fn (t : Int) (ht : ∀ H n, partsGo t H n partsTab = .ret (.tuple #[.slice none 0 0, .bool false]) H n []) (s : ByteArray) :
    ∃ r, FnS Try.prog 0 91 [.int .i64 t, .string s] .e 0 r ∧ ∃ H m wr b, r = .ret (.tuple #[.slice (some ⟨b, 0, none⟩) 1 1, .bool true]) H m wr ∧ H.get b = some (.cells [.string s, .bool false] 127) ∧ b < JJ := by
  refine fn_sx mixed (tbOf mixed [ct_partsNo t ht]) [] Try.func91 (c := bodyOf Try.f91) (by kernel_rfl) ?_
  refine And.intro (by simp) ?_
  exact ⟨_, _, _, _, rfl, rfl, by decide⟩
end Go.Proofs.Ytcggcoijhdagnaa
/- DERIVED. Data: split's contract; Check. -/
namespace Go.Proofs.Ytcggcoijhdagnaa
open Go Go.RowKit

/-- What split tells of data of a type that is known. -/
def outT (t : Int) (l : Bs) : Option (List (Bs × Bool) × Bs) := match ptsT t with | some ps => cuts ps l | none => none
def outP (t : Int) (l : Bs) : List (Bs × Bool) := match outT t l with | some x => x.1 | none => []
def outR (t : Int) (l : Bs) : Bs := match outT t l with | some x => x.2 | none => []

theorem callOK_split (t : Int) (s : ByteArray) (hs : (bs s).length ≤ 1000000000) (H : Tr AObj) (n : Nat) :
    (ptsT t = none → CallOK Try.prog 0 91 [.int .i64 t, .string s] H n (.ret (.tuple #[.slice (some ⟨n, 0, none⟩) 1 1, .bool true]) (H.set n (some (.cells [.string s, .bool false] 127))) (n + 1) [])) ∧
    ((ptsT t).isSome = true → (outT t (bs s)).isSome = true → CallOK Try.prog 0 91 [.int .i64 t, .string s] H n (.ret (.tuple #[.slice (some ⟨n, 0, none⟩) (outP t (bs s)).length U, .bool (outR t (bs s)).isEmpty]) (H.set n (some (.cells ((outP t (bs s)).flatMap pc) 127))) (n + 1) [])) ∧
    ((ptsT t).isSome = true → (outT t (bs s)).isSome = false → CallOK Try.prog 0 91 [.int .i64 t, .string s] H n (.ret (.tuple #[.slice none 0 0, .bool false]) H n [])) := by
  refine ⟨fun h => ?_, fun h1 h2 => ?_, fun h1 h2 => ?_⟩
  · obtain ⟨r, hF, H', m, wr, b, rfl, hb, hJ⟩ := splitNo_fn t (ptsT_none h) s
    exact callOK_fresh1 (fun n => .tuple #[.slice (some ⟨n, 0, none⟩) 1 1, .bool true]) hF rfl hb hJ rfl (fun n => .tuple _ _ (.cons _ _ _ _ (.sl _ _ _ _ _ (tau_one _ _)) (.cons _ _ _ _ (.bool _) .nil))) H n
  · obtain ⟨ps, hp⟩ := Option.isSome_iff_exists.1 h1
    obtain ⟨p1, p2, p3⟩ := ptsT_some hp
    obtain ⟨⟨out, rest⟩, ho⟩ := Option.isSome_iff_exists.1 h2
    have hc : cuts ps (bs s) = some (out, rest) := by unfold outT at ho; rw [hp] at ho; exact ho
    have e1 : outP t (bs s) = out := by unfold outP; rw [ho]
    have e2 : outR t (bs s) = rest := by unfold outR; rw [ho]
    obtain ⟨r, hF, H', m, wr, ⟨out', rest', b, q1, rfl, q3, q4⟩ | ⟨q1, _⟩⟩ := split_fn t ps p1 p2 p3 s hs
    · rw [hc] at q1; cases q1
      rw [e1, e2]
      exact callOK_fresh1 (fun n => .tuple #[.slice (some ⟨n, 0, none⟩) out.length U, .bool rest.isEmpty]) hF rfl q3 q4 (flat_plain pc pc_plain _) (fun n => .tuple _ _ (.cons _ _ _ _ (.sl _ _ _ _ _ (tau_one _ _)) (.cons _ _ _ _ (.bool _) .nil))) H n
    · rw [hc] at q1; cases q1
  · obtain ⟨ps, hp⟩ := Option.isSome_iff_exists.1 h1
    obtain ⟨p1, p2, p3⟩ := ptsT_some hp
    have hc : cuts ps (bs s) = none := by unfold outT at h2; rw [hp] at h2; simpa using h2
    obtain ⟨r, hF, H', m, wr, ⟨out', rest', b, q1, _⟩ | ⟨_, rfl⟩⟩ := split_fn t ps p1 p2 p3 s hs
    · rw [hc] at q1; cases q1
    · exact callOK_pure hF rfl rfl H n

def ct_split : Ct Try.prog 0 where
  f := 91
  res l H n := match l with
    | [.int .i64 t, .string s] => bif shortB s then (bif (ptsT t).isSome then (bif (outT t (bs s)).isSome then .ret (.tuple #[.slice (some ⟨n, 0, none⟩) (outP t (bs s)).length U, .bool (outR t (bs s)).isEmpty]) (H.set n (some (.cells ((outP t (bs s)).flatMap pc) 127))) (n + 1) [] else .ret (.tuple #[.slice none 0 0, .bool false]) H n [])
        else .ret (.tuple #[.slice (some ⟨n, 0, none⟩) 1 1, .bool true]) (H.set n (some (.cells [.string s, .bool false] 127))) (n + 1) []) else .bad "long" []
    | _ => .bad "arguments" []
  ok l H n := by
    split
    · rename_i t s
      cases hs : shortB s with
      | false => trivial
      | true =>
        obtain ⟨c1, c2, c3⟩ := callOK_split t s (short_len hs) H n
        cases h1 : (ptsT t).isSome with
        | false => exact c1 (by simpa using h1)
        | true =>
          cases h2 : (outT t (bs s)).isSome with
          | true => exact c2 h1 h2
          | false => exact c3 h1 h2
    · trivial
  ck l H n K := match l with
    | [.int .i64 t, .string s] => shortB s = true ∧ brK (ptsT t).isSome (brK (outT t (bs s)).isSome (K (.ret (.tuple #[.slice (some ⟨n, 0, none⟩) (outP t (bs s)).length U, .bool (outR t (bs s)).isEmpty]) (H.set n (some (.cells ((outP t (bs s)).flatMap pc) 127))) (n + 1) [])) (K (.ret (.tuple #[.slice none 0 0, .bool false]) H n [])))
        (K (.ret (.tuple #[.slice (some ⟨n, 0, none⟩) 1 1, .bool true]) (H.set n (some (.cells [.string s, .bool false] 127))) (n + 1) []))
    | _ => False
  imp l H n K h := by
    split at h
    · rename_i t s
      obtain ⟨h0, h⟩ := h
      simp only [h0, cond_true]
      cases h1 : (ptsT t).isSome with
      | false => rw [h1] at h; exact h
      | true =>
        rw [h1] at h
        cases h2 : (outT t (bs s)).isSome with
        | true => rw [h2] at h; exact h
        | false => rw [h2] at h; exact h
    · exact h.elim

/-- Are data those of a type? -/
def fitsD (t : Int) (l : Bs) : Bool := bif (ptsT t).isSome then (outT t l).isSome && (outR t l).isEmpty else true
/-- What Check tells. -/
def checkD (t : Int) (l : Bs) : Int := if t < 0 ∨ 65535 < t then 5 else if 65535 < l.length then 3 else if fitsD t l then 0 else 4

noncomputable def tbE2 : Tb Try.prog 0 := tbOf mixed [ct_split]
set_option maxRecDepth 100000 in
theorem check_fn (t : Int) (s : ByteArray) (hs : (bs s).length ≤ 1000000000) : ∃ r, FnS Try.prog 0 80 [.int .i64 t, .string s] .e 0 r ∧ ∃ H m wr, r = .ret (.int .i64 (checkD t (bs s))) H m wr := by
  have hsB : shortB s = true := by unfold shortB; rw [bs_size]; exact Nat.ble_eq_true_of_le hs
  refine fn_sx mixed tbE2 [] Try.func80 (c := bodyOf Try.f80) (by kernel_rfl) ?_
  unfold checkD fitsD
  refine ifK (fun h1 => ?_) (fun h1 => ?_)
  · rw [if_pos (.inl (of_decide_eq_true h1))]; exact ⟨_, _, _, rfl⟩
  have h1 := of_decide_eq_false h1
  refine ifK (fun h2 => ?_) (fun h2 => ?_)
  · rw [if_pos (.inr (of_decide_eq_true h2))]; exact ⟨_, _, _, rfl⟩
  have h2 := of_decide_eq_false h2
  rw [if_neg (by omega)]
  refine ifK (fun h3 => ?_) (fun h3 => ?_)
  · have h3 := of_decide_eq_true h3
    rw [bs_size] at h3
    rw [if_pos (by omega)]; exact ⟨_, _, _, rfl⟩
  have h3 := of_decide_eq_false h3
  rw [bs_size] at h3
  rw [if_neg (by omega)]
  refine And.intro hsB ?_
  refine ifK (fun h4 => ?_) (fun h4 => ?_)
  · rw [h4]
    refine ifK (fun h5 => ?_) (fun h5 => ?_)
    · rw [h5]
      refine ifK (fun h6 => ?_) (fun h6 => ?_)
      · rw [show (outR t (bs s)).isEmpty = false by simpa using h6]; exact ⟨_, _, _, rfl⟩
      · rw [show (outR t (bs s)).isEmpty = true by simpa using h6]; exact ⟨_, _, _, rfl⟩
    · rw [h5]; exact ⟨_, _, _, rfl⟩
  · rw [h4]; exact ⟨_, _, _, rfl⟩

/-- A function of a number and a string that was walked. -/
def Ct.intStr (f : FuncId) (out : Int → ByteArray → Value) (hp : ∀ t s, plainV 8 (out t s) = true) (ok : ∀ t s, (bs s).length ≤ 1000000000 → ∃ H m wr, FnS Try.prog 0 f [.int .i64 t, .string s] .e 0 (.ret (out t s) H m wr)) : Ct Try.prog 0 where
  f := f
  res l H n := match l with | [.int .i64 t, .string s] => bif shortB s then .ret (out t s) H n [] else .bad "long" [] | _ => .bad "arguments" []
  ok l H n := by
    split
    · rename_i t s
      cases hs : shortB s with
      | false => trivial
      | true => obtain ⟨_, _, _, h⟩ := ok t s (short_len hs); exact callOK_pure h rfl (hp t s) H n
    · trivial
  ck l H n K := match l with | [.int .i64 t, .string s] => shortB s = true ∧ K (.ret (out t s) H n []) | _ => False
  imp l H n K h := by
    split at h
    · obtain ⟨h1, h2⟩ := h
      simp only [h1, cond_true]; exact h2
    · exact h.elim

def ct_rdcheck : Ct Try.prog 0 := Ct.intStr 80 (fun t s => .int .i64 (checkD t (bs s))) (fun _ _ => rfl) (fun t s hs => by
  obtain ⟨r, h, H, m, wr, rfl⟩ := check_fn t s hs
  exact ⟨H, m, wr, h⟩)
end Go.Proofs.Ytcggcoijhdagnaa
/- DERIVED. Data: Lower. -/
namespace Go.Proofs.Ytcggcoijhdagnaa
open Go Go.RowKit
noncomputable def tbE3 : Tb Try.prog 0 := tbOf mixed [ct_split, ct_rdcheck]

/-- A piece in lower form. -/
def lowP (p : Bs × Bool) : Bs := if p.2 then lower p.1 else p.1
theorem bs_cat (s t : ByteArray) : bs (catS s t) = bs s ++ bs t := by simp [bs, catS]
theorem bs_mk (l : Bs) : bs ⟨l.toArray⟩ = l := by simp [bs]
theorem lower_len (l : Bs) : (lower l).length = l.length := by simp [lower]
theorem lowP_len (p : Bs × Bool) : (lowP p).length = p.1.length := by unfold lowP; split <;> simp [lower_len]
theorem catOk_of {s t : ByteArray} (h : (bs s).length + (bs t).length ≤ 9000000000000000000) : catOk s t = true := by
  unfold catOk
  rw [bs_size, bs_size]; exact Nat.ble_eq_true_of_le (by omega)
theorem shortB_of {s : ByteArray} (h : (bs s).length ≤ 1000000000) : shortB s = true := by unfold shortB; rw [bs_size]; exact Nat.ble_eq_true_of_le h
def sumL (ps : List (Bs × Bool)) : Nat := (ps.flatMap fun p => p.1).length
theorem sumL_at (ps : List (Bs × Bool)) (i : Nat) (h : i < ps.length) : (ps[i].1).length ≤ sumL ps := by
  unfold sumL
  have : ps[i] ∈ ps := List.getElem_mem h
  revert this
  generalize ps[i] = p
  intro hm
  induction ps with
  | nil => cases hm
  | cons q r ih =>
    rw [List.flatMap_cons, List.length_append]
    rcases List.mem_cons.1 hm with e | e
    · rw [e]; omega
    · by_cases hr : r = []
      · subst hr; cases e
      · have : ∀ (l : List (Bs × Bool)), p ∈ l → p.1.length ≤ (l.flatMap fun p => p.1).length := by
          intro l hl
          induction l with
          | nil => cases hl
          | cons x y ihy =>
            rw [List.flatMap_cons, List.length_append]
            rcases List.mem_cons.1 hl with e2 | e2
            · rw [e2]; omega
            · have := ihy e2; omega
        have := this r e; omega
theorem lowP_take (ps : List (Bs × Bool)) (i : Nat) (h : i < ps.length) : (ps.take (i + 1)).flatMap lowP = (ps.take i).flatMap lowP ++ lowP ps[i] := by
  rw [List.take_succ_eq_append_getElem h, List.flatMap_append]; simp only [List.flatMap_cons, List.flatMap_nil, List.append_nil]
theorem low_sum (ps : List (Bs × Bool)) (i : Nat) : ((ps.take i).flatMap lowP).length ≤ sumL ps := by
  unfold sumL
  induction ps generalizing i with
  | nil => simp
  | cons p r ih =>
    cases i with
    | zero => simp
    | succ i =>
      have := ih i
      simp only [List.take_succ_cons, List.flatMap_cons, List.length_append, lowP_len]; omega
theorem str_mk (s : ByteArray) : Value.string s = str (bs s) := by simp [str, bs]

def lwS (ps : List (Bs × Bool)) (c : Nat) (x : Nat × ByteArray) (f : Nat → Option Value) : Fs :=
  ⟨slots 7 [(7, .string x.2), (19, .slice (some ⟨0, 0, none⟩) ps.length c), (20, .int .i64 ps.length), (21, .int .i64 x.1)] f, heap 1 [(0, .cells (ps.flatMap pc) 127)], 1, [], []⟩

def lowerD (t : Int) (l : Bs) : Bs := bif (ptsT t).isSome then (bif (outT t l).isSome && (outR t l).isEmpty then (outP t l).flatMap lowP else l) else l
theorem cuts_sum : ∀ (ps : List Pt) (l : Bs) (o : List (Bs × Bool)) (r : Bs), cuts ps l = some (o, r) → o.length = ps.length ∧ (o.flatMap fun p => p.1) ++ r = l
  | [], l, o, r, h => by simp only [cuts, Option.some.injEq, Prod.mk.injEq] at h; obtain ⟨rfl, rfl⟩ := h; simp
  | p :: ps, l, o, r, h => by
    simp only [cuts] at h
    cases hc : p.cut l with
    | none => rw [hc] at h; cases h
    | some n =>
      rw [hc] at h
      simp only [] at h
      obtain ⟨⟨o', r'⟩, h1, h2⟩ := Option.map_eq_some_iff.1 h
      simp only [Prod.mk.injEq] at h2
      obtain ⟨rfl, rfl⟩ := h2
      obtain ⟨e1, e2⟩ := cuts_sum ps _ _ _ h1
      refine ⟨by simp [e1], ?_⟩
      rw [List.flatMap_cons, List.append_assoc, e2]; simp
theorem outP_sum {t : Int} {l : Bs} (h1 : (ptsT t).isSome = true) (h2 : (outT t l).isSome = true) : (outP t l).length < 1000 ∧ sumL (outP t l) ≤ l.length := by
  obtain ⟨ps, hp⟩ := Option.isSome_iff_exists.1 h1
  obtain ⟨⟨o, r⟩, ho⟩ := Option.isSome_iff_exists.1 h2
  have hc : cuts ps l = some (o, r) := by unfold outT at ho; rw [hp] at ho; exact ho
  have e1 : outP t l = o := by unfold outP; rw [ho]
  obtain ⟨q1, q2⟩ := cuts_sum ps l o r hc
  have := (ptsT_some hp).2.1
  rw [e1]
  refine ⟨by omega, ?_⟩
  unfold sumL; rw [← q2]; simp

end Go.Proofs.Ytcggcoijhdagnaa
/- DERIVED. Data: what fits. -/
namespace Go.Proofs.Ytcggcoijhdagnaa
open Go Go.RowKit
theorem check_zero {t : Int} {l : Bs} (h : checkD t l = 0) : 0 ≤ t ∧ t ≤ 65535 ∧ l.length ≤ 65535 ∧ fitsD t l = true := by
  unfold checkD at h
  split at h
  · cases h
  · split at h
    · cases h
    · split at h
      · rename_i h1 h2 h3
        exact ⟨by omega, by omega, by omega, h3⟩
      · cases h
theorem fits_out {t : Int} {ps : List Pt} {l : Bs} (hp : ptsT t = some ps) (h : fitsD t l = true) : ∃ o, cuts ps l = some (o, []) ∧ outT t l = some (o, []) := by
  unfold fitsD at h
  rw [hp] at h
  simp only [Option.isSome_some, cond_true, Bool.and_eq_true] at h
  obtain ⟨⟨o, r⟩, ho⟩ := Option.isSome_iff_exists.1 h.1
  have hr : r = [] := by
    have := h.2
    unfold outR at this
    rw [ho] at this
    simpa using this
  subst hr
  refine ⟨o, ?_, ho⟩
  unfold outT at ho
  rw [hp] at ho; exact ho
theorem cut_all {p : Pt} {l : Bs} {n : Nat} (h : p.cut l = some n) (hd : l.drop n = []) : l.take n = l := by
  rw [List.drop_eq_nil_iff] at hd
  exact List.take_of_length_le hd
theorem out_nm {t : Int} {l : Bs} (hp : ptsT t = some [.nm]) (h : fitsD t l = true) : outT t l = some ([(l, true)], []) := by
  obtain ⟨o, h1, h2⟩ := fits_out hp h
  rw [h2]
  simp only [cuts] at h1
  cases hc : Pt.nm.cut l with
  | none => rw [hc] at h1; cases h1
  | some n =>
    rw [hc] at h1
    simp only [Option.map_some, Option.some.injEq, Prod.mk.injEq] at h1
    obtain ⟨rfl, h3⟩ := h1
    rw [cut_all hc h3]; rfl
theorem out_mx {l : Bs} (h : fitsD 15 l = true) : outT 15 l = some ([(l.take 2, false), (l.drop 2, true)], []) := by
  obtain ⟨o, h1, h2⟩ := fits_out (ps := [.sz 2, .nm]) rfl h
  rw [h2]
  simp only [cuts] at h1
  cases hc0 : (Pt.sz 2).cut l with
  | none => rw [hc0] at h1; cases h1
  | some m =>
    rw [hc0] at h1
    have hm : m = 2 := by simp only [Pt.cut] at hc0; split at hc0 <;> cases hc0; rfl
    subst hm
    simp only [] at h1
    cases hc : Pt.nm.cut (l.drop 2) with
    | none => rw [hc] at h1; cases h1
    | some n =>
      rw [hc] at h1
      simp only [Option.map_some, Option.some.injEq, Prod.mk.injEq] at h1
      obtain ⟨rfl, h3⟩ := h1
      rw [cut_all hc h3]; rfl
theorem out_a {l : Bs} (h : fitsD 1 l = true) : l.length = 4 := by
  obtain ⟨o, h1, h2⟩ := fits_out (ps := [.sz 4]) rfl h
  simp only [cuts] at h1
  cases hc0 : (Pt.sz 4).cut l with
  | none => rw [hc0] at h1; cases h1
  | some m =>
    rw [hc0] at h1
    simp only [Pt.cut] at hc0
    split at hc0 <;> cases hc0
    simp only [Option.map_some, Option.some.injEq, Prod.mk.injEq, List.drop_eq_nil_iff] at h1
    omega
theorem out_soa {l : Bs} (h : fitsD 6 l = true) : ∃ a b c, outT 6 l = some ([(a, true), (b, true), (c, false)], []) ∧ l = a ++ b ++ c ∧ c.length = 20 := by
  obtain ⟨o, h1, h2⟩ := fits_out (ps := [.nm, .nm, .sz 20]) rfl h
  obtain ⟨q1, q2⟩ := cuts_sum _ _ _ _ h1
  simp only [cuts] at h1
  cases hc0 : Pt.nm.cut l with
  | none => rw [hc0] at h1; cases h1
  | some m =>
    rw [hc0] at h1
    simp only [] at h1
    cases hc1 : Pt.nm.cut (l.drop m) with
    | none => rw [hc1] at h1; cases h1
    | some k =>
      rw [hc1] at h1
      simp only [] at h1
      cases hc2 : (Pt.sz 20).cut ((l.drop m).drop k) with
      | none => rw [hc2] at h1; cases h1
      | some j =>
        rw [hc2] at h1
        simp only [Option.map_some, Option.some.injEq, Prod.mk.injEq] at h1
        obtain ⟨rfl, h3⟩ := h1
        have hle := cut_le hc2
        have hj : j = 20 := by simp only [Pt.cut] at hc2; split at hc2 <;> cases hc2; rfl
        refine ⟨_, _, _, h2, ?_, ?_⟩
        · simpa [List.append_assoc] using q2.symm
        · rw [List.length_take]; omega

/-- The name that data point at. -/
def tgtD (t : Int) (l : Bs) : Option Bs := if checkD t l = 0 then (if t = 2 ∨ t = 5 ∨ t = 12 then some l else if t = 15 then some (l.drop 2) else none) else none
def tgtV (x : Option Bs) : Value := .tuple #[str (x.getD []), .bool x.isSome]
theorem tgtV_plain (x : Option Bs) : plainV 8 (tgtV x) = true := by cases x <;> rfl

end Go.Proofs.Ytcggcoijhdagnaa
/- DERIVED. Data: the document's form, texts, front. -/
namespace Go.Proofs.Ytcggcoijhdagnaa
open Go Go.RowKit
noncomputable def tbF1 : Tb Try.prog 0 := tbOf mixed [ct_rcheck]
/-- A type's parts, as the document has them. -/
def formL (t : Int) : List Int := if t = 1 then [4] else if t = 28 then [16] else if t = 2 then [-1] else if t = 5 then [-1] else if t = 12 then [-1] else if t = 15 then [2, -1] else if t = 6 then [-1, -1, 20] else if t = 16 then [-2] else [-3]
def intV (i : Int) : Value := .int .i64 i
theorem intV_plain (l : List Int) : plainL (l.map intV) = true := by simp [plainL, plainV, intV]
set_option maxRecDepth 100000 in
theorem form_fn (t : Int) : ∃ r, FnS Try.prog 0 95 [.int .i64 t] .e 0 r ∧ ∃ H m wr, r = .ret (.slice (some ⟨0, 0, none⟩) (formL t).length (formL t).length) H m wr ∧ H.get 0 = some (.cells ((formL t).map intV) 3) := by
  refine fn_sx mixed tbF1 [] Try.func95 (c := bodyOf Try.f95) (by kernel_rfl) ?_
  unfold formL
  refine ifK (fun h => ?_) (fun h => ?_)
  · rw [if_pos (by simpa using h)]; exact ⟨_, _, _, rfl, rfl⟩
  rw [if_neg (by simpa using h)]
  refine ifK (fun h => ?_) (fun h => ?_)
  · rw [if_pos (by simpa using h)]; exact ⟨_, _, _, rfl, rfl⟩
  rw [if_neg (by simpa using h)]
  refine ifK (fun h => ?_) (fun h => ?_)
  · rw [if_pos (by simpa using h)]; exact ⟨_, _, _, rfl, rfl⟩
  rw [if_neg (by simpa using h)]
  refine ifK (fun h => ?_) (fun h => ?_)
  · rw [if_pos (by simpa using h)]; exact ⟨_, _, _, rfl, rfl⟩
  rw [if_neg (by simpa using h)]
  refine ifK (fun h => ?_) (fun h => ?_)
  · rw [if_pos (by simpa using h)]; exact ⟨_, _, _, rfl, rfl⟩
  rw [if_neg (by simpa using h)]
  refine ifK (fun h => ?_) (fun h => ?_)
  · rw [if_pos (by simpa using h)]; exact ⟨_, _, _, rfl, rfl⟩
  rw [if_neg (by simpa using h)]
  refine ifK (fun h => ?_) (fun h => ?_)
  · rw [if_pos (by simpa using h)]; exact ⟨_, _, _, rfl, rfl⟩
  rw [if_neg (by simpa using h)]
  refine ifK (fun h => ?_) (fun h => ?_)
  · rw [if_pos (by simpa using h)]; exact ⟨_, _, _, rfl, rfl⟩
  rw [if_neg (by simpa using h)]
  exact ⟨_, _, _, rfl, rfl⟩
def formOut (t : Int) (H : Tr AObj) (n : Nat) : Res := .ret (.slice (some ⟨n, 0, none⟩) (formL t).length (formL t).length) (H.set n (some (.cells ((formL t).map intV) 3))) (n + 1) []
def ct_form : Ct Try.prog 0 where
  f := 95
  res l H n := match l with | [.int .i64 t] => formOut t H n | _ => .bad "arguments" []
  ok l H n := by
    split
    · rename_i t
      obtain ⟨r, hF, H', m, wr, rfl, hb⟩ := form_fn t
      exact callOK_fresh1 (fun n => .slice (some ⟨n, 0, none⟩) (formL t).length (formL t).length) hF rfl hb (by decide) (intV_plain _) (fun n => .sl _ _ _ _ _ (tau_one _ _)) H n
    · trivial
  ck l H n K := match l with | [.int .i64 t] => K (formOut t H n) | _ => False
  imp l H n K h := by
    split at h
    · exact h
    · exact h.elim

set_option maxRecDepth 100000 in
theorem rtexts_fn (s : ByteArray) (hs : (bs s).length ≤ 1000000000) : ∃ r, FnS Try.prog 0 110 [.string s] .e 0 r ∧ ∃ H m wr, r = .ret (.bool (texts (bs s))) H m wr := by
  refine fn_sx mixed tbF1 [] Try.func110 (c := bodyOf Try.f110) (by kernel_rfl) ?_
  refine loop_goX (fun i f => ⟨slots 6 [(0, .string s), (3, .int .i64 (i : Nat))] f, heap 0 [], 0, [], []⟩) (fun i => (bs s).length - i) (fun i => i ≤ (bs s).length + 256 ∧ (i ≤ (bs s).length → txt (bs s) = txt ((bs s).drop i)) ∧ ((bs s).length < i → txt (bs s) = false)) 0 ⟨by omega, fun _ => rfl, fun h => by omega⟩
    (rc_slots [] rfl rfl rfl (fun l e => by cases e) (by decide) (by decide) rfl rfl (wr_of rfl) ⟨⟨_, rfl, .string _⟩, ⟨_, rfl, .int _ _⟩, trivial⟩ trivial .nil) ?_
  rintro i f ⟨hi, h1, h2⟩
  refine sx_ok tbF1 [] 0 _ none mixed _ _ _ ?_
  refine ifK (fun h3 => ?_) (fun h3 => ?_)
  · have h3 : i < (bs s).length := by have := of_decide_eq_true h3; rw [bs_size] at this; omega
    have hb := byte_lt (bs s)[i]
    have hat := atS_get s i h3
    have e1 : IntKind.i64.wrap (IntKind.i64.wrap ((i : Int) + 1) + IntKind.i64.wrap ((atS s (i : Int)).toNat : Int)) = ((i + 1 + (bs s)[i].toNat : Nat) : Int) := by
      rw [hat, wrapN (x := (((bs s)[i]).toNat : Int)) (by omega) (by omega), wrapN (x := (i : Int) + 1) (by omega) (by omega), wrapN (by omega) (by omega)]; omega
    refine And.intro (by simp only [inI, bs_size]; simp; omega) ?_
    have hstep := txt_at (bs s) i h3
    refine ⟨i + 1 + (bs s)[i].toNat, ⟨by omega, fun h4 => ?_, fun h4 => ?_⟩, by omega, rc_slots [] rfl rfl rfl (fun l e => by cases e) (by decide) (by decide) rfl rfl (wr_of rfl) ⟨⟨_, rfl, .string _⟩, slot_int rfl e1, trivial⟩ trivial .nil⟩
    · rw [h1 (by omega), hstep, decide_eq_true (by omega), Bool.true_and]
    · rw [h1 (by omega), hstep, decide_eq_false (by omega), Bool.false_and]
  · have h3 : ¬ i < (bs s).length := by have := of_decide_eq_false h3; rw [bs_size] at this; omega
    refine And.intro rfl (rc_end (rc_slots [] rfl rfl rfl (fun l e => by cases e) (by decide) (by decide) rfl rfl (wr_of rfl) (d := 6) (d2 := 0) (lv := [(0, .string s), (3, .int .i64 (i : Nat))]) (bs := []) (W := []) (m := 0) (df := []) ⟨⟨_, rfl, .string _⟩, ⟨_, rfl, .int _ _⟩, trivial⟩ trivial .nil) (fun f => ?_))
    refine ifK (fun h4 => ?_) (fun h4 => ?_)
    · have hne : (bs s).isEmpty = false := by
        have : (!(bs s == [])) = true := h4
        cases hb : bs s with
        | nil => rw [hb] at this; cases this
        | cons a l => rfl
      have : texts (bs s) = ((i : Int) == (s.data.size : Int)) := by
        unfold texts
        rw [hne, Bool.not_false, Bool.true_and, bs_size]
        by_cases hie : i = (bs s).length
        · rw [h1 (by omega), List.drop_eq_nil_of_le (by omega), txt_nil, hie]; simp
        · rw [h2 (by omega)]; symm; simp; omega
      rw [this]; exact ⟨_, _, _, rfl⟩
    · have : texts (bs s) = false := by
        have : (!(bs s == [])) = false := h4
        cases hb : bs s with
        | nil => rfl
        | cons a l => rw [hb] at this; cases this
      rw [this]; exact ⟨_, _, _, rfl⟩
def ct_rtexts : Ct Try.prog 0 := Ct.strF 110 (fun s => .bool (texts (bs s))) (fun _ => rfl) (fun s hs => by
  obtain ⟨r, h, H, m, wr, rfl⟩ := rtexts_fn s hs
  exact ⟨H, m, wr, h⟩)

/-- Where the name in front ends, or -1. -/
def frontI (l : Bs) : Int := match front l with | some k => (k : Int) | none => -1
set_option maxRecDepth 100000 in
theorem rfront_fn (s : ByteArray) (hs : (bs s).length ≤ 100000000) : ∃ r, FnS Try.prog 0 109 [.string s] .e 0 r ∧ ∃ H m wr, r = .ret (.int .i64 (frontI (bs s))) H m wr := by
  refine fn_sx mixed tbF1 [] Try.func109 (c := bodyOf Try.f109) (by kernel_rfl) ?_
  refine loop_goX (fun i f => ⟨slots 6 [(0, .string s), (3, .int .i64 (i : Nat))] f, heap 0 [], 0, [], []⟩) (fun i => (bs s).length + 300 - i) (fun i => i ≤ (bs s).length + 256 ∧ zpos (bs s) = (zpos ((bs s).drop i)).map (· + i)) 0 ⟨by omega, by simp⟩
    (rc_slots [] rfl rfl rfl (fun l e => by cases e) (by decide) (by decide) rfl rfl (wr_of rfl) ⟨⟨_, rfl, .string _⟩, ⟨_, rfl, .int _ _⟩, trivial⟩ trivial .nil) ?_
  rintro i f ⟨hi, heq⟩
  refine sx_ok tbF1 [] 0 _ none mixed _ _ _ ?_
  refine ifK (fun h1 => ?_) (fun h1 => ?_)
  · have h1 : i < (bs s).length := by have := of_decide_eq_true h1; rw [bs_size] at this; omega
    have hb := byte_lt (bs s)[i]
    have hat := atS_get s i h1
    have hstep := zpos_at (bs s) i h1
    refine And.intro (by simp only [inI, bs_size]; simp; omega) ?_
    refine ifK (fun h3 => ?_) (fun h3 => ?_)
    · have h3 : (bs s)[i].toNat ≠ 0 := by rw [hat] at h3; simpa using h3
      rw [if_neg h3] at hstep
      have e1 : IntKind.i64.wrap (IntKind.i64.wrap ((i : Int) + 1) + IntKind.i64.wrap ((atS s (i : Int)).toNat : Int)) = ((i + 1 + (bs s)[i].toNat : Nat) : Int) := by
        rw [hat, wrapN (x := (((bs s)[i]).toNat : Int)) (by omega) (by omega), wrapN (x := (i : Int) + 1) (by omega) (by omega), wrapN (by omega) (by omega)]; omega
      refine And.intro (by simp only [inI, bs_size]; simp; omega) ?_
      refine ⟨i + 1 + (bs s)[i].toNat, ⟨by omega, ?_⟩, by omega, rc_slots [] rfl rfl rfl (fun l e => by cases e) (by decide) (by decide) rfl rfl (wr_of rfl) ⟨⟨_, rfl, .string _⟩, slot_int rfl e1, trivial⟩ trivial .nil⟩
      rw [heq, hstep, Option.map_map]
      congr 1
      funext j; simp; omega
    · have h3 : (bs s)[i].toNat = 0 := by rw [hat] at h3; simpa using h3
      rw [if_pos h3] at hstep
      rw [hstep] at heq
      have hz : zpos (bs s) = some i := by rw [heq]; simp
      refine And.intro rfl (rc_end (rc_slots [] rfl rfl rfl (fun l e => by cases e) (by decide) (by decide) rfl rfl (wr_of rfl) (d := 6) (d2 := 0) (lv := [(0, .string s), (3, .int .i64 (i : Nat))]) (bs := []) (W := []) (m := 0) (df := []) ⟨⟨_, rfl, .string _⟩, ⟨_, rfl, .int _ _⟩, trivial⟩ trivial .nil) (fun f => ?_))
      refine ifK (fun _ => ?_) (fun h4 => absurd h4 (by rw [bs_size]; simp; omega))
      have e1 : IntKind.i64.wrap ((i : Int) + 1) = ((i + 1 : Nat) : Int) := by rw [wrapN (by omega) (by omega)]; omega
      have e2 : (IntKind.i64.wrap ((i : Int) + 1)).toNat = i + 1 := by rw [e1]; rfl
      refine And.intro (by rw [e1]; simp only [inLH, bs_size]; simp; omega) ?_
      have hsub : bs (subS s (Int.toNat 0) (IntKind.i64.wrap ((i : Int) + 1)).toNat) = (bs s).take (i + 1) := by rw [bs_sub, e2]; simp
      refine And.intro (shortB_of (by rw [hsub]; simp; omega)) ?_
      refine ifK (fun h4 => ?_) (fun h4 => ?_)
      · have h4 : (labels ((bs s).take (i + 1))).2 = 0 := by rw [hsub] at h4; simpa using h4
        have hf : frontI (bs s) = IntKind.i64.wrap ((i : Int) + 1) := by unfold frontI front; rw [hz, e1]; simp [h4]
        rw [hf]; exact ⟨_, _, _, rfl⟩
      · have h4 : ¬ (labels ((bs s).take (i + 1))).2 = 0 := by rw [hsub] at h4; simpa using h4
        have hf : frontI (bs s) = -1 := by unfold frontI front; rw [hz]; simp [h4]
        rw [hf]; exact ⟨_, _, _, rfl⟩
  · have h1 : ¬ i < (bs s).length := by have := of_decide_eq_false h1; rw [bs_size] at this; omega
    have hf : frontI (bs s) = -1 := by
      unfold frontI front
      rw [heq, List.drop_eq_nil_of_le (by omega), zpos_nil]; rfl
    rw [hf]
    refine And.intro rfl (rc_end (rc_slots [] rfl rfl rfl (fun l e => by cases e) (by decide) (by decide) rfl rfl (wr_of rfl) (d := 6) (d2 := 0) (lv := [(0, .string s), (3, .int .i64 (i : Nat))]) (bs := []) (W := []) (m := 0) (df := []) ⟨⟨_, rfl, .string _⟩, ⟨_, rfl, .int _ _⟩, trivial⟩ trivial .nil) (fun f => ?_))
    refine ifK (fun h4 => absurd h4 (by rw [bs_size]; simp; omega)) (fun _ => ?_)
    exact ⟨_, _, _, rfl⟩
def ct_rfront : Ct Try.prog 0 where
  f := 109
  res l H n := match l with | [.string s] => bif s.data.size.ble 100000000 then .ret (.int .i64 (frontI (bs s))) H n [] else .bad "long" [] | _ => .bad "arguments" []
  ok l H n := by
    split
    · rename_i s
      cases hs : s.data.size.ble 100000000 with
      | false => trivial
      | true =>
        obtain ⟨r, h, H', m, wr, rfl⟩ := rfront_fn s (by rw [← bs_size]; exact Nat.le_of_ble_eq_true hs)
        exact callOK_pure h rfl rfl H n
    · trivial
  ck l H n K := match l with | [.string s] => s.data.size.ble 100000000 = true ∧ brK (front (bs s)).isSome (K (.ret (.int .i64 (frontN (bs s) : Int)) H n [])) (K (.ret (.int .i64 (-1)) H n [])) | _ => False
  imp l H n K h := by
    split at h
    · rename_i s
      obtain ⟨h1, h2⟩ := h
      simp only [h1, cond_true]
      unfold frontI
      cases hf : front (bs s) with
      | none => rw [hf] at h2; exact h2
      | some k => rw [hf] at h2; simp only [frontN, hf, Option.getD_some] at h2; exact h2
    · exact h.elim
end Go.Proofs.Ytcggcoijhdagnaa
/- DERIVED. Data: the document's Parts. -/
namespace Go.Proofs.Ytcggcoijhdagnaa
open Go Go.RowKit
/-- A part, as the document has it. -/
inductive Pr where
  | nm
  | rest
  | all
  | sz (k : Nat)
def Pr.i : Pr → Int
  | .nm => -1
  | .rest => -2
  | .all => -3
  | .sz k => (k : Int)
def Pr.cut (p : Pr) (l : Bs) : Option Nat :=
  match p with
  | .nm => front l
  | .rest => if texts l then some l.length else none
  | .all => some l.length
  | .sz k => if k ≤ l.length then some k else none
def cutsR : List Pr → Bs → Option (List Bs × Bs)
  | [], l => some ([], l)
  | p :: ps, l => match p.cut l with
    | none => none
    | some n => (cutsR ps (l.drop n)).map fun x => (l.take n :: x.1, x.2)
theorem cutsR_step (ps : List Pr) (i : Nat) (h : i < ps.length) (l : Bs) : cutsR (ps.drop i) l = match ps[i].cut l with
    | none => none
    | some n => (cutsR (ps.drop (i + 1)) (l.drop n)).map fun x => (l.take n :: x.1, x.2) := by
  rw [List.drop_eq_getElem_cons h]; rfl
noncomputable def tbF2 : Tb Try.prog 0 := tbOf mixed [ct_form, ct_rtexts, ct_rfront]
theorem strs_plain (l : List Bs) : plainL (l.map str) = true := by simp [plainL, plainV, str]
def paS (ps : List Pr) (x : Nat × List Bs × ByteArray) (f : Nat → Option Value) : Fs :=
  match x with
  | (i, acc, s) =>
    match acc with
    | [] => ⟨slots 7 [(1, .string s), (6, .slice (some ⟨0, 0, none⟩) ps.length ps.length), (7, .slice none 0 0), (8, .int .i64 i)] f, heap 1 [(0, .cells ((ps.map Pr.i).map intV) 3)], 1, [], []⟩
    | a :: l => ⟨slots 7 [(1, .string s), (6, .slice (some ⟨0, 0, none⟩) ps.length ps.length), (7, .slice (some ⟨1, 0, none⟩) (l.length + 1) U), (8, .int .i64 i)] f, heap 2 [(0, .cells ((ps.map Pr.i).map intV) 3), (1, .cells ((a :: l).map str) 9)], 2, [], []⟩
def paP (ps : List Pr) (s0 : ByteArray) (r : Res) : Prop := ∃ H m wr,
      (∃ out rest b, cutsR ps (bs s0) = some (out, rest) ∧ r = .ret (.tuple #[.slice (some ⟨b, 0, none⟩) out.length U, .bool rest.isEmpty]) H m wr ∧ H.get b = some (.cells (out.map str) 9) ∧ b < JJ) ∨
      (cutsR ps (bs s0) = none ∧ r = .ret (.tuple #[.slice none 0 0, .bool false]) H m wr)
set_option maxRecDepth 1000000 in
set_option maxHeartbeats 4000000 in
theorem parts_fn (t : Int) (ps : List Pr) (hps : 0 < ps.length) (hps2 : ps.length < 1000) (ht : formL t = ps.map Pr.i) (s0 : ByteArray) (hs0 : (bs s0).length ≤ 100000000) :
    ∃ r, FnS Try.prog 0 96 [.int .i64 t, .string s0] .e 0 r ∧ paP ps s0 r := by
  refine fn_sx mixed tbF2 [] Try.func96 (c := bodyOf Try.f96) (by kernel_rfl) ?_
  have hlen : (formL t).length = ps.length := by rw [ht]; simp
  refine loop_goX (paS ps) (fun x => ps.length - x.1) (fun x => x.1 ≤ ps.length ∧ (bs x.2.2).length ≤ 100000000 ∧ x.2.1.length = x.1 ∧ cutsR ps (bs s0) = (cutsR (ps.drop x.1) (bs x.2.2)).map fun y => (x.2.1 ++ y.1, y.2)) (0, [], s0) ⟨Nat.zero_le _, hs0, rfl, by simp⟩
    (rc_slots [0] rfl rfl rfl (fun l e => by cases e) (by decide) (by decide) rfl rfl (wr_of rfl) ⟨⟨_, rfl, .string _⟩, ⟨_, rfl, by rw [← hlen]; exact .sl _ _ _ _ _ rfl⟩, ⟨_, rfl, plain_rv 8 rfl⟩, ⟨_, rfl, .int _ _⟩, trivial⟩ ⟨⟨by decide, _, rfl, by rw [← ht]; exact .same (intV_plain _)⟩, trivial⟩ .nil) ?_
  rintro ⟨i, acc, s⟩ f ⟨hi, hs, hacc, heq⟩
  have hi : i ≤ ps.length := hi
  have hs : (bs s).length ≤ 100000000 := hs
  have hacc : acc.length = i := hacc
  have heq : cutsR ps (bs s0) = (cutsR (ps.drop i) (bs s)).map fun y => (acc ++ y.1, y.2) := heq
  have hsB : s.data.size.ble 100000000 = true := by rw [bs_size]; exact Nat.ble_eq_true_of_le hs
  have hz : s.data.size = (bs s).length := bs_size s
  have side : ∀ (h1 : i < ps.length), ((ps.map Pr.i).map intV)[0 + ((i : Nat) : Int).toNat * 1]? = some (.int .i64 ps[i].i) := fun h1 => by
    rw [Int.toNat_natCast, Nat.zero_add, Nat.mul_one]
    simp [h1, intV]
  cases acc with
  | nil =>
    refine sx_ok tbF2 [0] 0 _ none mixed _ _ _ ?_
    refine ifK (fun h1 => ?_) (fun h1 => ?_)
    · have h1 : i < ps.length := by have := of_decide_eq_true h1; omega
      have hst := cutsR_step ps i h1 (bs s)
      have hsd := side h1
      refine ifK (fun _ => ?_) (fun h2 => absurd h2 (by simp [inI]; omega))
      cases hp : ps[i] with
      | nm =>
        rw [hp] at hst hsd
        refine Exists.intro (-1 : Int) (And.intro hsd ?_)
        refine And.intro hsB ?_
        refine ifK (fun h3 => ?_) (fun h3 => ?_)
        · obtain ⟨k, hk⟩ := Option.isSome_iff_exists.1 h3
          have hcut : Pr.nm.cut (bs s) = some k := hk
          have hkn : frontN (bs s) = k := by simp [frontN, hk]
          have hkl := front_le hk
          have hx : ((frontN (bs s) : Nat) : Int) = (k : Nat) := by rw [hkn]
          refine ifK (fun h5 => absurd (of_decide_eq_true h5) (by rw [hkn, bs_size]; omega)) (fun _ => ?_)
          refine And.intro (by rw [hx]; simp only [inLH, bs_size, Bool.and_eq_true, decide_eq_true_eq] <;> omega) ?_
          refine And.intro (by rw [hx]; simp only [inLH, bs_size, Bool.and_eq_true, decide_eq_true_eq] <;> omega) ?_
          refine ⟨(i + 1, [] ++ [(bs s).take (k)], subS s (((frontN (bs s) : Nat) : Int)).toNat ((s.data.size : Int)).toNat), ⟨h1, ?_, ?_, ?_⟩, ?_, ?_⟩
          · show (bs (subS s _ _)).length ≤ _; rw [sub_rest s _ _ hx]; simp <;> omega
          · simp only [List.length_append, hacc]; rfl
          · show cutsR ps (bs s0) = (cutsR (ps.drop (i + 1)) (bs (subS s _ _))).map _; rw [sub_rest s _ _ hx, heq, hst, hcut]; simp only [Option.map_map]; exact congrArg (fun g => Option.map g _) (funext fun y => by simp)
          · show ps.length - (i + 1) < ps.length - i; omega
          · refine rc_slots [0, 2] rfl rfl rfl (fun l e => by cases e) (by decide) (by decide) rfl rfl (wr_of rfl) ⟨⟨_, rfl, .string _⟩, ⟨_, rfl, .sl _ _ _ _ _ rfl⟩, ⟨_, rfl, ?_⟩, slot_int rfl (by rw [wrapN (by omega) (by omega)]; omega), trivial⟩ ⟨⟨by decide, _, rfl, .same (intV_plain _)⟩, ⟨by decide, _, rfl, ?_⟩, trivial⟩ .nil
            · exact .sl _ _ _ _ _ rfl
            · refine ro_eq ?_ (strs_plain _)
              show [Value.string (subS s (Int.toNat 0) (((frontN (bs s) : Nat) : Int)).toNat)] = _
              rw [sub_take s _ _ hx]; rfl
        · have hcut : Pr.nm.cut (bs s) = none := by have : (front (bs s)).isSome = false := h3; simpa [Pr.cut] using this
          have hn : cutsR ps (bs s0) = none := by rw [heq, hst, hcut]; rfl
          refine And.intro rfl (rc_end (rc_slots [] rfl rfl rfl (fun l e => by cases e) (by decide) (by decide) rfl rfl (wr_of rfl) (d := 7) (d2 := 0) (lv := [(4, .slice none 0 0), (5, .bool false)]) (bs := []) (W := []) (m := 0) (df := []) ⟨⟨_, rfl, plain_rv 8 rfl⟩, ⟨_, rfl, plain_rv 8 rfl⟩, trivial⟩ trivial .nil) (fun f => ?_))
          exact ⟨_, _, _, .inr ⟨hn, rfl⟩⟩
      | rest =>
        rw [hp] at hst hsd
        refine Exists.intro (-2 : Int) (And.intro hsd ?_)
        refine And.intro (shortB_of (by omega)) ?_
        refine ifK (fun h3 => ?_) (fun h3 => ?_)
        · have hcut : Pr.rest.cut (bs s) = some (bs s).length := by have h3 : texts (bs s) = true := h3; simp [Pr.cut, h3]
          have hx : (s.data.size : Int) = ((bs s).length : Nat) := by rw [bs_size]
          refine ifK (fun h5 => absurd h5 (by simp)) (fun _ => ?_)
          refine And.intro (by rw [hx]; simp only [inLH, bs_size, Bool.and_eq_true, decide_eq_true_eq] <;> omega) ?_
          refine And.intro (by rw [hx]; simp only [inLH, bs_size, Bool.and_eq_true, decide_eq_true_eq] <;> omega) ?_
          refine ⟨(i + 1, [] ++ [(bs s).take ((bs s).length)], subS s ((s.data.size : Int)).toNat ((s.data.size : Int)).toNat), ⟨h1, ?_, ?_, ?_⟩, ?_, ?_⟩
          · show (bs (subS s _ _)).length ≤ _; rw [sub_rest s _ _ hx]; simp <;> omega
          · simp only [List.length_append, hacc]; rfl
          · show cutsR ps (bs s0) = (cutsR (ps.drop (i + 1)) (bs (subS s _ _))).map _; rw [sub_rest s _ _ hx, heq, hst, hcut]; simp only [Option.map_map]; exact congrArg (fun g => Option.map g _) (funext fun y => by simp)
          · show ps.length - (i + 1) < ps.length - i; omega
          · refine rc_slots [0, 2] rfl rfl rfl (fun l e => by cases e) (by decide) (by decide) rfl rfl (wr_of rfl) ⟨⟨_, rfl, .string _⟩, ⟨_, rfl, .sl _ _ _ _ _ rfl⟩, ⟨_, rfl, ?_⟩, slot_int rfl (by rw [wrapN (by omega) (by omega)]; omega), trivial⟩ ⟨⟨by decide, _, rfl, .same (intV_plain _)⟩, ⟨by decide, _, rfl, ?_⟩, trivial⟩ .nil
            · exact .sl _ _ _ _ _ rfl
            · refine ro_eq ?_ (strs_plain _)
              show [Value.string (subS s (Int.toNat 0) ((s.data.size : Int)).toNat)] = _
              rw [sub_take s _ _ hx]; rfl
        · have hcut : Pr.rest.cut (bs s) = none := by have h3 : texts (bs s) = false := h3; simp [Pr.cut, h3]
          have hn : cutsR ps (bs s0) = none := by rw [heq, hst, hcut]; rfl
          refine And.intro rfl (rc_end (rc_slots [] rfl rfl rfl (fun l e => by cases e) (by decide) (by decide) rfl rfl (wr_of rfl) (d := 7) (d2 := 0) (lv := [(4, .slice none 0 0), (5, .bool false)]) (bs := []) (W := []) (m := 0) (df := []) ⟨⟨_, rfl, plain_rv 8 rfl⟩, ⟨_, rfl, plain_rv 8 rfl⟩, trivial⟩ trivial .nil) (fun f => ?_))
          exact ⟨_, _, _, .inr ⟨hn, rfl⟩⟩
      | all =>
        rw [hp] at hst hsd
        refine Exists.intro (-3 : Int) (And.intro hsd ?_)
        have hcut : Pr.all.cut (bs s) = some (bs s).length := rfl
        have hx : (s.data.size : Int) = ((bs s).length : Nat) := by rw [bs_size]
        refine ifK (fun h5 => absurd h5 (by simp)) (fun _ => ?_)
        refine And.intro (by rw [hx]; simp only [inLH, bs_size, Bool.and_eq_true, decide_eq_true_eq] <;> omega) ?_
        refine And.intro (by rw [hx]; simp only [inLH, bs_size, Bool.and_eq_true, decide_eq_true_eq] <;> omega) ?_
        refine ⟨(i + 1, [] ++ [(bs s).take ((bs s).length)], subS s ((s.data.size : Int)).toNat ((s.data.size : Int)).toNat), ⟨h1, ?_, ?_, ?_⟩, ?_, ?_⟩
        · show (bs (subS s _ _)).length ≤ _; rw [sub_rest s _ _ hx]; simp <;> omega
        · simp only [List.length_append, hacc]; rfl
        · show cutsR ps (bs s0) = (cutsR (ps.drop (i + 1)) (bs (subS s _ _))).map _; rw [sub_rest s _ _ hx, heq, hst, hcut]; simp only [Option.map_map]; exact congrArg (fun g => Option.map g _) (funext fun y => by simp)
        · show ps.length - (i + 1) < ps.length - i; omega
        · refine rc_slots [0, 2] rfl rfl rfl (fun l e => by cases e) (by decide) (by decide) rfl rfl (wr_of rfl) ⟨⟨_, rfl, .string _⟩, ⟨_, rfl, .sl _ _ _ _ _ rfl⟩, ⟨_, rfl, ?_⟩, slot_int rfl (by rw [wrapN (by omega) (by omega)]; omega), trivial⟩ ⟨⟨by decide, _, rfl, .same (intV_plain _)⟩, ⟨by decide, _, rfl, ?_⟩, trivial⟩ .nil
          · exact .sl _ _ _ _ _ rfl
          · refine ro_eq ?_ (strs_plain _)
            show [Value.string (subS s (Int.toNat 0) ((s.data.size : Int)).toNat)] = _
            rw [sub_take s _ _ hx]; rfl
      | sz k =>
        rw [hp] at hst hsd
        refine Exists.intro (k : Int) (And.intro hsd ?_)
        refine ifK (fun h3 => ?_) (fun h3 => ?_)
        · have h3 : ¬ k ≤ (bs s).length := by have := of_decide_eq_true h3; rw [bs_size] at this; omega
          have hcut : (Pr.sz k).cut (bs s) = none := by simp [Pr.cut, h3]
          have hn : cutsR ps (bs s0) = none := by rw [heq, hst, hcut]; rfl
          refine And.intro rfl (rc_end (rc_slots [] rfl rfl rfl (fun l e => by cases e) (by decide) (by decide) rfl rfl (wr_of rfl) (d := 7) (d2 := 0) (lv := [(4, .slice none 0 0), (5, .bool false)]) (bs := []) (W := []) (m := 0) (df := []) ⟨⟨_, rfl, plain_rv 8 rfl⟩, ⟨_, rfl, plain_rv 8 rfl⟩, trivial⟩ trivial .nil) (fun f => ?_))
          exact ⟨_, _, _, .inr ⟨hn, rfl⟩⟩
        · have h3 : k ≤ (bs s).length := by have := of_decide_eq_false h3; rw [bs_size] at this; omega
          have hcut : (Pr.sz k).cut (bs s) = some k := by simp [Pr.cut, h3]
          have hx : (k : Int) = (k : Nat) := rfl
          refine And.intro (by rw [hx]; simp only [inLH, bs_size, Bool.and_eq_true, decide_eq_true_eq] <;> omega) ?_
          refine And.intro (by rw [hx]; simp only [inLH, bs_size, Bool.and_eq_true, decide_eq_true_eq] <;> omega) ?_
          refine ⟨(i + 1, [] ++ [(bs s).take (k)], subS s ((k : Int)).toNat ((s.data.size : Int)).toNat), ⟨h1, ?_, ?_, ?_⟩, ?_, ?_⟩
          · show (bs (subS s _ _)).length ≤ _; rw [sub_rest s _ _ hx]; simp <;> omega
          · simp only [List.length_append, hacc]; rfl
          · show cutsR ps (bs s0) = (cutsR (ps.drop (i + 1)) (bs (subS s _ _))).map _; rw [sub_rest s _ _ hx, heq, hst, hcut]; simp only [Option.map_map]; exact congrArg (fun g => Option.map g _) (funext fun y => by simp)
          · show ps.length - (i + 1) < ps.length - i; omega
          · refine rc_slots [0, 2] rfl rfl rfl (fun l e => by cases e) (by decide) (by decide) rfl rfl (wr_of rfl) ⟨⟨_, rfl, .string _⟩, ⟨_, rfl, .sl _ _ _ _ _ rfl⟩, ⟨_, rfl, ?_⟩, slot_int rfl (by rw [wrapN (by omega) (by omega)]; omega), trivial⟩ ⟨⟨by decide, _, rfl, .same (intV_plain _)⟩, ⟨by decide, _, rfl, ?_⟩, trivial⟩ .nil
            · exact .sl _ _ _ _ _ rfl
            · refine ro_eq ?_ (strs_plain _)
              show [Value.string (subS s (Int.toNat 0) ((k : Int)).toNat)] = _
              rw [sub_take s _ _ hx]; rfl
    · have h1 : ¬ i < ps.length := by have := of_decide_eq_false h1; omega
      exact absurd hacc (by simp; omega)
  | cons a l =>
    refine sx_ok tbF2 [0, 1] 0 _ none mixed _ _ _ ?_
    refine ifK (fun h1 => ?_) (fun h1 => ?_)
    · have h1 : i < ps.length := by have := of_decide_eq_true h1; omega
      have hst := cutsR_step ps i h1 (bs s)
      have hsd := side h1
      refine ifK (fun _ => ?_) (fun h2 => absurd h2 (by simp [inI]; omega))
      cases hp : ps[i] with
      | nm =>
        rw [hp] at hst hsd
        refine Exists.intro (-1 : Int) (And.intro hsd ?_)
        refine And.intro hsB ?_
        refine ifK (fun h3 => ?_) (fun h3 => ?_)
        · obtain ⟨k, hk⟩ := Option.isSome_iff_exists.1 h3
          have hcut : Pr.nm.cut (bs s) = some k := hk
          have hkn : frontN (bs s) = k := by simp [frontN, hk]
          have hkl := front_le hk
          have hx : ((frontN (bs s) : Nat) : Int) = (k : Nat) := by rw [hkn]
          refine ifK (fun h5 => absurd (of_decide_eq_true h5) (by rw [hkn, bs_size]; omega)) (fun _ => ?_)
          refine And.intro (by rw [hx]; simp only [inLH, bs_size, Bool.and_eq_true, decide_eq_true_eq] <;> omega) ?_
          refine And.intro (by have hT : (Try.prog.types[9]).size = 1 := (by kernel_rfl); have hB : (Try.prog.types[9]).bytes = 16 := (by kernel_rfl); have hl : l.length + 1 = i := hacc; simp [oneL, Value.oneCell', hT, hB]; omega) ?_
          refine And.intro (by rw [hx]; simp only [inLH, bs_size, Bool.and_eq_true, decide_eq_true_eq] <;> omega) ?_
          refine ⟨(i + 1, (a :: l) ++ [(bs s).take (k)], subS s (((frontN (bs s) : Nat) : Int)).toNat ((s.data.size : Int)).toNat), ⟨h1, ?_, ?_, ?_⟩, ?_, ?_⟩
          · show (bs (subS s _ _)).length ≤ _; rw [sub_rest s _ _ hx]; simp <;> omega
          · simp only [List.length_append, hacc]; rfl
          · show cutsR ps (bs s0) = (cutsR (ps.drop (i + 1)) (bs (subS s _ _))).map _; rw [sub_rest s _ _ hx, heq, hst, hcut]; simp only [Option.map_map]; exact congrArg (fun g => Option.map g _) (funext fun y => by simp)
          · show ps.length - (i + 1) < ps.length - i; omega
          · refine rc_slots [0, 3] rfl rfl rfl (fun l e => by cases e) (by decide) (by decide) rfl rfl (wr_of rfl) ⟨⟨_, rfl, .string _⟩, ⟨_, rfl, .sl _ _ _ _ _ rfl⟩, ⟨_, rfl, ?_⟩, slot_int rfl (by rw [wrapN (by omega) (by omega)]; omega), trivial⟩ ⟨⟨by decide, _, rfl, .same (intV_plain _)⟩, ⟨by decide, _, rfl, ?_⟩, trivial⟩ .nil
            · have : (l ++ [(bs s).take (k)]).length = l.length + 1 := by simp
              show RV _ _ (.slice _ ((l ++ [_]).length + 1) U)
              rw [this]
              exact .sl _ _ _ _ _ rfl
            · refine ro_eq ?_ (strs_plain _)
              show List.take ((l.length + 1) * 1) ((a :: l).map str) ++ [Value.string (subS s (Int.toNat 0) (((frontN (bs s) : Nat) : Int)).toNat)] = _
              rw [sub_take s _ _ hx, List.take_of_length_le (by simp)]
              show _ = ((a :: l) ++ [_]).map str
              rw [List.map_append]; rfl
        · have hcut : Pr.nm.cut (bs s) = none := by have : (front (bs s)).isSome = false := h3; simpa [Pr.cut] using this
          have hn : cutsR ps (bs s0) = none := by rw [heq, hst, hcut]; rfl
          refine And.intro rfl (rc_end (rc_slots [] rfl rfl rfl (fun l e => by cases e) (by decide) (by decide) rfl rfl (wr_of rfl) (d := 7) (d2 := 0) (lv := [(4, .slice none 0 0), (5, .bool false)]) (bs := []) (W := []) (m := 0) (df := []) ⟨⟨_, rfl, plain_rv 8 rfl⟩, ⟨_, rfl, plain_rv 8 rfl⟩, trivial⟩ trivial .nil) (fun f => ?_))
          exact ⟨_, _, _, .inr ⟨hn, rfl⟩⟩
      | rest =>
        rw [hp] at hst hsd
        refine Exists.intro (-2 : Int) (And.intro hsd ?_)
        refine And.intro (shortB_of (by omega)) ?_
        refine ifK (fun h3 => ?_) (fun h3 => ?_)
        · have hcut : Pr.rest.cut (bs s) = some (bs s).length := by have h3 : texts (bs s) = true := h3; simp [Pr.cut, h3]
          have hx : (s.data.size : Int) = ((bs s).length : Nat) := by rw [bs_size]
          refine ifK (fun h5 => absurd h5 (by simp)) (fun _ => ?_)
          refine And.intro (by rw [hx]; simp only [inLH, bs_size, Bool.and_eq_true, decide_eq_true_eq] <;> omega) ?_
          refine And.intro (by have hT : (Try.prog.types[9]).size = 1 := (by kernel_rfl); have hB : (Try.prog.types[9]).bytes = 16 := (by kernel_rfl); have hl : l.length + 1 = i := hacc; simp [oneL, Value.oneCell', hT, hB]; omega) ?_
          refine And.intro (by rw [hx]; simp only [inLH, bs_size, Bool.and_eq_true, decide_eq_true_eq] <;> omega) ?_
          refine ⟨(i + 1, (a :: l) ++ [(bs s).take ((bs s).length)], subS s ((s.data.size : Int)).toNat ((s.data.size : Int)).toNat), ⟨h1, ?_, ?_, ?_⟩, ?_, ?_⟩
          · show (bs (subS s _ _)).length ≤ _; rw [sub_rest s _ _ hx]; simp <;> omega
          · simp only [List.length_append, hacc]; rfl
          · show cutsR ps (bs s0) = (cutsR (ps.drop (i + 1)) (bs (subS s _ _))).map _; rw [sub_rest s _ _ hx, heq, hst, hcut]; simp only [Option.map_map]; exact congrArg (fun g => Option.map g _) (funext fun y => by simp)
          · show ps.length - (i + 1) < ps.length - i; omega
          · refine rc_slots [0, 3] rfl rfl rfl (fun l e => by cases e) (by decide) (by decide) rfl rfl (wr_of rfl) ⟨⟨_, rfl, .string _⟩, ⟨_, rfl, .sl _ _ _ _ _ rfl⟩, ⟨_, rfl, ?_⟩, slot_int rfl (by rw [wrapN (by omega) (by omega)]; omega), trivial⟩ ⟨⟨by decide, _, rfl, .same (intV_plain _)⟩, ⟨by decide, _, rfl, ?_⟩, trivial⟩ .nil
            · have : (l ++ [(bs s).take ((bs s).length)]).length = l.length + 1 := by simp
              show RV _ _ (.slice _ ((l ++ [_]).length + 1) U)
              rw [this]
              exact .sl _ _ _ _ _ rfl
            · refine ro_eq ?_ (strs_plain _)
              show List.take ((l.length + 1) * 1) ((a :: l).map str) ++ [Value.string (subS s (Int.toNat 0) ((s.data.size : Int)).toNat)] = _
              rw [sub_take s _ _ hx, List.take_of_length_le (by simp)]
              show _ = ((a :: l) ++ [_]).map str
              rw [List.map_append]; rfl
        · have hcut : Pr.rest.cut (bs s) = none := by have h3 : texts (bs s) = false := h3; simp [Pr.cut, h3]
          have hn : cutsR ps (bs s0) = none := by rw [heq, hst, hcut]; rfl
          refine And.intro rfl (rc_end (rc_slots [] rfl rfl rfl (fun l e => by cases e) (by decide) (by decide) rfl rfl (wr_of rfl) (d := 7) (d2 := 0) (lv := [(4, .slice none 0 0), (5, .bool false)]) (bs := []) (W := []) (m := 0) (df := []) ⟨⟨_, rfl, plain_rv 8 rfl⟩, ⟨_, rfl, plain_rv 8 rfl⟩, trivial⟩ trivial .nil) (fun f => ?_))
          exact ⟨_, _, _, .inr ⟨hn, rfl⟩⟩
      | all =>
        rw [hp] at hst hsd
        refine Exists.intro (-3 : Int) (And.intro hsd ?_)
        have hcut : Pr.all.cut (bs s) = some (bs s).length := rfl
        have hx : (s.data.size : Int) = ((bs s).length : Nat) := by rw [bs_size]
        refine ifK (fun h5 => absurd h5 (by simp)) (fun _ => ?_)
        refine And.intro (by rw [hx]; simp only [inLH, bs_size, Bool.and_eq_true, decide_eq_true_eq] <;> omega) ?_
        refine And.intro (by have hT : (Try.prog.types[9]).size = 1 := (by kernel_rfl); have hB : (Try.prog.types[9]).bytes = 16 := (by kernel_rfl); have hl : l.length + 1 = i := hacc; simp [oneL, Value.oneCell', hT, hB]; omega) ?_
        refine And.intro (by rw [hx]; simp only [inLH, bs_size, Bool.and_eq_true, decide_eq_true_eq] <;> omega) ?_
        refine ⟨(i + 1, (a :: l) ++ [(bs s).take ((bs s).length)], subS s ((s.data.size : Int)).toNat ((s.data.size : Int)).toNat), ⟨h1, ?_, ?_, ?_⟩, ?_, ?_⟩
        · show (bs (subS s _ _)).length ≤ _; rw [sub_rest s _ _ hx]; simp <;> omega
        · simp only [List.length_append, hacc]; rfl
        · show cutsR ps (bs s0) = (cutsR (ps.drop (i + 1)) (bs (subS s _ _))).map _; rw [sub_rest s _ _ hx, heq, hst, hcut]; simp only [Option.map_map]; exact congrArg (fun g => Option.map g _) (funext fun y => by simp)
        · show ps.length - (i + 1) < ps.length - i; omega
        · refine rc_slots [0, 3] rfl rfl rfl (fun l e => by cases e) (by decide) (by decide) rfl rfl (wr_of rfl) ⟨⟨_, rfl, .string _⟩, ⟨_, rfl, .sl _ _ _ _ _ rfl⟩, ⟨_, rfl, ?_⟩, slot_int rfl (by rw [wrapN (by omega) (by omega)]; omega), trivial⟩ ⟨⟨by decide, _, rfl, .same (intV_plain _)⟩, ⟨by decide, _, rfl, ?_⟩, trivial⟩ .nil
          · have : (l ++ [(bs s).take ((bs s).length)]).length = l.length + 1 := by simp
            show RV _ _ (.slice _ ((l ++ [_]).length + 1) U)
            rw [this]
            exact .sl _ _ _ _ _ rfl
          · refine ro_eq ?_ (strs_plain _)
            show List.take ((l.length + 1) * 1) ((a :: l).map str) ++ [Value.string (subS s (Int.toNat 0) ((s.data.size : Int)).toNat)] = _
            rw [sub_take s _ _ hx, List.take_of_length_le (by simp)]
            show _ = ((a :: l) ++ [_]).map str
            rw [List.map_append]; rfl
      | sz k =>
        rw [hp] at hst hsd
        refine Exists.intro (k : Int) (And.intro hsd ?_)
        refine ifK (fun h3 => ?_) (fun h3 => ?_)
        · have h3 : ¬ k ≤ (bs s).length := by have := of_decide_eq_true h3; rw [bs_size] at this; omega
          have hcut : (Pr.sz k).cut (bs s) = none := by simp [Pr.cut, h3]
          have hn : cutsR ps (bs s0) = none := by rw [heq, hst, hcut]; rfl
          refine And.intro rfl (rc_end (rc_slots [] rfl rfl rfl (fun l e => by cases e) (by decide) (by decide) rfl rfl (wr_of rfl) (d := 7) (d2 := 0) (lv := [(4, .slice none 0 0), (5, .bool false)]) (bs := []) (W := []) (m := 0) (df := []) ⟨⟨_, rfl, plain_rv 8 rfl⟩, ⟨_, rfl, plain_rv 8 rfl⟩, trivial⟩ trivial .nil) (fun f => ?_))
          exact ⟨_, _, _, .inr ⟨hn, rfl⟩⟩
        · have h3 : k ≤ (bs s).length := by have := of_decide_eq_false h3; rw [bs_size] at this; omega
          have hcut : (Pr.sz k).cut (bs s) = some k := by simp [Pr.cut, h3]
          have hx : (k : Int) = (k : Nat) := rfl
          refine And.intro (by rw [hx]; simp only [inLH, bs_size, Bool.and_eq_true, decide_eq_true_eq] <;> omega) ?_
          refine And.intro (by have hT : (Try.prog.types[9]).size = 1 := (by kernel_rfl); have hB : (Try.prog.types[9]).bytes = 16 := (by kernel_rfl); have hl : l.length + 1 = i := hacc; simp [oneL, Value.oneCell', hT, hB]; omega) ?_
          refine And.intro (by rw [hx]; simp only [inLH, bs_size, Bool.and_eq_true, decide_eq_true_eq] <;> omega) ?_
          refine ⟨(i + 1, (a :: l) ++ [(bs s).take (k)], subS s ((k : Int)).toNat ((s.data.size : Int)).toNat), ⟨h1, ?_, ?_, ?_⟩, ?_, ?_⟩
          · show (bs (subS s _ _)).length ≤ _; rw [sub_rest s _ _ hx]; simp <;> omega
          · simp only [List.length_append, hacc]; rfl
          · show cutsR ps (bs s0) = (cutsR (ps.drop (i + 1)) (bs (subS s _ _))).map _; rw [sub_rest s _ _ hx, heq, hst, hcut]; simp only [Option.map_map]; exact congrArg (fun g => Option.map g _) (funext fun y => by simp)
          · show ps.length - (i + 1) < ps.length - i; omega
          · refine rc_slots [0, 3] rfl rfl rfl (fun l e => by cases e) (by decide) (by decide) rfl rfl (wr_of rfl) ⟨⟨_, rfl, .string _⟩, ⟨_, rfl, .sl _ _ _ _ _ rfl⟩, ⟨_, rfl, ?_⟩, slot_int rfl (by rw [wrapN (by omega) (by omega)]; omega), trivial⟩ ⟨⟨by decide, _, rfl, .same (intV_plain _)⟩, ⟨by decide, _, rfl, ?_⟩, trivial⟩ .nil
            · have : (l ++ [(bs s).take (k)]).length = l.length + 1 := by simp
              show RV _ _ (.slice _ ((l ++ [_]).length + 1) U)
              rw [this]
              exact .sl _ _ _ _ _ rfl
            · refine ro_eq ?_ (strs_plain _)
              show List.take ((l.length + 1) * 1) ((a :: l).map str) ++ [Value.string (subS s (Int.toNat 0) ((k : Int)).toNat)] = _
              rw [sub_take s _ _ hx, List.take_of_length_le (by simp)]
              show _ = ((a :: l) ++ [_]).map str
              rw [List.map_append]; rfl
    · have h1 : ¬ i < ps.length := by have := of_decide_eq_false h1; omega
      have hc : cutsR ps (bs s0) = some (a :: l, bs s) := by rw [heq, List.drop_eq_nil_of_le (by omega)]; simp [cutsR]
      have hem : (bs s).isEmpty = (s.data.toList == []) := by show _ = (bs s == []); cases bs s <;> rfl
      refine And.intro rfl (rc_end (rc_slots [1] rfl rfl rfl (fun l e => by cases e) (by decide) (by decide) rfl rfl (wr_of rfl) (d := 7) (d2 := 1) (lv := [(1, .string s), (7, .slice (some ⟨0, 0, none⟩) (l.length + 1) U)]) (bs := [(0, .cells ((a :: l).map str) 9)]) (W := []) (m := 1) (df := []) ⟨⟨_, rfl, .string _⟩, ⟨_, rfl, .sl _ _ _ _ _ rfl⟩, trivial⟩ ⟨⟨by decide, _, rfl, .same (strs_plain _)⟩, trivial⟩ .nil) (fun f => ?_))
      exact ⟨_, _, _, .inl ⟨a :: l, bs s, 0, hc, by rw [hem]; rfl, rfl, by decide⟩⟩
end Go.Proofs.Ytcggcoijhdagnaa
/- DERIVED. Data: the document's Parts, as a contract. -/
namespace Go.Proofs.Ytcggcoijhdagnaa
open Go Go.RowKit
def prT (t : Int) : List Pr := if t = 1 then [.sz 4] else if t = 28 then [.sz 16] else if t = 2 then [.nm] else if t = 5 then [.nm] else if t = 12 then [.nm] else if t = 15 then [.sz 2, .nm] else if t = 6 then [.nm, .nm, .sz 20] else if t = 16 then [.rest] else [.all]
theorem prT_form (t : Int) : formL t = (prT t).map Pr.i ∧ 0 < (prT t).length ∧ (prT t).length < 1000 := by
  unfold formL prT
  split; · exact ⟨rfl, by decide, by decide⟩
  split; · exact ⟨rfl, by decide, by decide⟩
  split; · exact ⟨rfl, by decide, by decide⟩
  split; · exact ⟨rfl, by decide, by decide⟩
  split; · exact ⟨rfl, by decide, by decide⟩
  split; · exact ⟨rfl, by decide, by decide⟩
  split; · exact ⟨rfl, by decide, by decide⟩
  split; · exact ⟨rfl, by decide, by decide⟩
  exact ⟨rfl, by decide, by decide⟩
/-- What the document's Parts tells. -/
def rpO (t : Int) (l : Bs) : List Bs := match cutsR (prT t) l with | some x => x.1 | none => []
def rpR (t : Int) (l : Bs) : Bs := match cutsR (prT t) l with | some x => x.2 | none => []
def rpOut (t : Int) (s : ByteArray) (H : Tr AObj) (n : Nat) : Res := .ret (.tuple #[.slice (some ⟨n, 0, none⟩) (rpO t (bs s)).length U, .bool (rpR t (bs s)).isEmpty]) (H.set n (some (.cells ((rpO t (bs s)).map str) 9))) (n + 1) []
theorem callOK_parts (t : Int) (s : ByteArray) (hs : (bs s).length ≤ 100000000) (H : Tr AObj) (n : Nat) :
    ((cutsR (prT t) (bs s)).isSome = true → CallOK Try.prog 0 96 [.int .i64 t, .string s] H n (rpOut t s H n)) ∧
    ((cutsR (prT t) (bs s)).isSome = false → CallOK Try.prog 0 96 [.int .i64 t, .string s] H n (.ret (.tuple #[.slice none 0 0, .bool false]) H n [])) := by
  obtain ⟨p1, p2, p3⟩ := prT_form t
  obtain ⟨r, hF, hP⟩ := parts_fn t (prT t) p2 p3 p1 s hs
  unfold paP at hP
  obtain ⟨H', m, wr, ⟨out, rest, b, q1, rfl, q3, q4⟩ | ⟨q1, rfl⟩⟩ := hP
  · refine ⟨fun _ => ?_, fun h => (by rw [q1] at h; cases h)⟩
    have e1 : rpO t (bs s) = out := by unfold rpO; rw [q1]
    have e2 : rpR t (bs s) = rest := by unfold rpR; rw [q1]
    unfold rpOut
    rw [e1, e2]
    exact callOK_fresh1 (fun n => .tuple #[.slice (some ⟨n, 0, none⟩) out.length U, .bool rest.isEmpty]) hF rfl q3 q4 (strs_plain _) (fun n => .tuple _ _ (.cons _ _ _ _ (.sl _ _ _ _ _ (tau_one _ _)) (.cons _ _ _ _ (.bool _) .nil))) H n
  · exact ⟨fun h => (by rw [q1] at h; cases h), fun _ => callOK_pure hF rfl rfl H n⟩
def ct_rparts : Ct Try.prog 0 where
  f := 96
  res l H n := match l with
    | [.int .i64 t, .string s] => bif s.data.size.ble 100000000 then (bif (cutsR (prT t) (bs s)).isSome then rpOut t s H n else .ret (.tuple #[.slice none 0 0, .bool false]) H n []) else .bad "long" []
    | _ => .bad "arguments" []
  ok l H n := by
    split
    · rename_i t s
      cases hs : s.data.size.ble 100000000 with
      | false => trivial
      | true =>
        obtain ⟨c1, c2⟩ := callOK_parts t s (by rw [← bs_size]; exact Nat.le_of_ble_eq_true hs) H n
        cases h1 : (cutsR (prT t) (bs s)).isSome with
        | true => exact c1 h1
        | false => exact c2 h1
    · trivial
  ck l H n K := match l with
    | [.int .i64 t, .string s] => s.data.size.ble 100000000 = true ∧ brK (cutsR (prT t) (bs s)).isSome (K (rpOut t s H n)) (K (.ret (.tuple #[.slice none 0 0, .bool false]) H n []))
    | _ => False
  imp l H n K h := by
    split at h
    · rename_i t s
      obtain ⟨h0, h⟩ := h
      simp only [h0, cond_true]
      cases h1 : (cutsR (prT t) (bs s)).isSome with
      | true => rw [h1] at h; exact h
      | false => rw [h1] at h; exact h
    · exact h.elim

def Pt.pr : Pt → Pr
  | .nm => .nm
  | .rest => .rest
  | .sz k => .sz k
theorem Pt.pr_cut (p : Pt) (l : Bs) : p.pr.cut l = p.cut l := by cases p <;> rfl
/-- The document's parts are those of split. -/
theorem cutsR_known {t : Int} {ps : List Pt} (h : ptsT t = some ps) (l : Bs) : cutsR (prT t) l = (cuts ps l).map fun x => (x.1.map (·.1), x.2) := by
  have key : ∀ (ps : List Pt) (l : Bs), cutsR (ps.map Pt.pr) l = (cuts ps l).map fun x => (x.1.map (·.1), x.2) := by
    intro ps
    induction ps with
    | nil => intro l; rfl
    | cons p ps ih =>
      intro l
      simp only [List.map_cons, cutsR, cuts, Pt.pr_cut]
      cases p.cut l with
      | none => rfl
      | some n =>
        simp only []
        rw [ih, Option.map_map, Option.map_map]; rfl
  suffices hpr : prT t = ps.map Pt.pr by
    rw [hpr]; exact key ps l
  unfold ptsT at h
  unfold prT
  by_cases h1 : t = 1
  · subst h1; cases h; rfl
  by_cases h2 : t = 28
  · subst h2; cases h; rfl
  by_cases h3 : t = 2
  · subst h3; cases h; rfl
  by_cases h4 : t = 5
  · subst h4; cases h; rfl
  by_cases h5 : t = 12
  · subst h5; cases h; rfl
  by_cases h6 : t = 15
  · subst h6; cases h; rfl
  by_cases h7 : t = 6
  · subst h7; cases h; rfl
  by_cases h8 : t = 16
  · subst h8; cases h; rfl
  · exfalso
    rw [show (t == 1) = false by simpa using h1, show (t == 28) = false by simpa using h2, show (t == 2) = false by simpa using h3, show (t == 5) = false by simpa using h4, show (t == 12) = false by simpa using h5, show (t == 15) = false by simpa using h6, show (t == 6) = false by simpa using h7, show (t == 16) = false by simpa using h8] at h
    cases h
theorem prT_none {t : Int} (h : ptsT t = none) : prT t = [.all] := by
  unfold ptsT at h
  unfold prT
  by_cases h1 : t = 1
  · subst h1; cases h
  by_cases h2 : t = 28
  · subst h2; cases h
  by_cases h3 : t = 2
  · subst h3; cases h
  by_cases h4 : t = 5
  · subst h4; cases h
  by_cases h5 : t = 12
  · subst h5; cases h
  by_cases h6 : t = 15
  · subst h6; cases h
  by_cases h7 : t = 6
  · subst h7; cases h
  by_cases h8 : t = 16
  · subst h8; cases h
  · rw [if_neg h1, if_neg h2, if_neg h3, if_neg h4, if_neg h5, if_neg h6, if_neg h7, if_neg h8]
theorem fits_ref (t : Int) (l : Bs) : ((cutsR (prT t) l).isSome && (rpR t l).isEmpty) = fitsD t l := by
  cases hp : ptsT t with
  | none =>
    unfold fitsD rpR
    rw [hp, prT_none hp]
    simp [cutsR, Pr.cut]
  | some ps =>
    have e1 : outT t l = cuts ps l := by unfold outT; rw [hp]
    unfold fitsD rpR outR
    rw [hp, cutsR_known hp, e1]
    cases hc : cuts ps l with
    | none => rfl
    | some x => rfl
noncomputable def tbF3 : Tb Try.prog 0 := tbOf mixed [ct_rparts]
set_option maxRecDepth 100000 in
theorem rcheck_fn (t : Int) (s : ByteArray) (hs : (bs s).length ≤ 100000000) : ∃ r, FnS Try.prog 0 94 [.int .i64 t, .string s] .e 0 r ∧ ∃ H m wr, r = .ret (.int .i64 (checkD t (bs s))) H m wr := by
  have hsB : s.data.size.ble 100000000 = true := by rw [bs_size]; exact Nat.ble_eq_true_of_le hs
  refine fn_sx mixed tbF3 [] Try.func94 (c := bodyOf Try.f94) (by kernel_rfl) ?_
  unfold checkD
  rw [← fits_ref]
  refine ifK (fun h1 => ?_) (fun h1 => ?_)
  · rw [if_pos (.inl (of_decide_eq_true h1))]; exact ⟨_, _, _, rfl⟩
  have h1 := of_decide_eq_false h1
  refine ifK (fun h2 => ?_) (fun h2 => ?_)
  · rw [if_pos (.inr (of_decide_eq_true h2))]; exact ⟨_, _, _, rfl⟩
  have h2 := of_decide_eq_false h2
  rw [if_neg (by omega)]
  refine ifK (fun h3 => ?_) (fun h3 => ?_)
  · have h3 := of_decide_eq_true h3
    rw [bs_size] at h3
    rw [if_pos (by omega)]; exact ⟨_, _, _, rfl⟩
  have h3 := of_decide_eq_false h3
  rw [bs_size] at h3
  rw [if_neg (by omega)]
  refine And.intro hsB ?_
  refine ifK (fun h5 => ?_) (fun h5 => ?_)
  · rw [h5]
    refine ifK (fun h6 => ?_) (fun h6 => ?_)
    · rw [show (rpR t (bs s)).isEmpty = false by simpa using h6]; exact ⟨_, _, _, rfl⟩
    · rw [show (rpR t (bs s)).isEmpty = true by simpa using h6]; exact ⟨_, _, _, rfl⟩
  · rw [h5]; exact ⟨_, _, _, rfl⟩
/-- A function of a number and a string that was walked, the string of at most 100 million bytes. -/
def Ct.intStr8 (f : FuncId) (out : Int → ByteArray → Value) (hp : ∀ t s, plainV 8 (out t s) = true) (ok : ∀ t s, (bs s).length ≤ 100000000 → ∃ H m wr, FnS Try.prog 0 f [.int .i64 t, .string s] .e 0 (.ret (out t s) H m wr)) : Ct Try.prog 0 where
  f := f
  res l H n := match l with | [.int .i64 t, .string s] => bif s.data.size.ble 100000000 then .ret (out t s) H n [] else .bad "long" [] | _ => .bad "arguments" []
  ok l H n := by
    split
    · rename_i t s
      cases hs : s.data.size.ble 100000000 with
      | false => trivial
      | true => obtain ⟨_, _, _, h⟩ := ok t s (by rw [← bs_size]; exact Nat.le_of_ble_eq_true hs); exact callOK_pure h rfl (hp t s) H n
    · trivial
  ck l H n K := match l with | [.int .i64 t, .string s] => s.data.size.ble 100000000 = true ∧ K (.ret (out t s) H n []) | _ => False
  imp l H n K h := by
    split at h
    · obtain ⟨h1, h2⟩ := h
      simp only [h1, cond_true]; exact h2
    · exact h.elim
def ct_rrdcheck : Ct Try.prog 0 := Ct.intStr8 94 (fun t s => .int .i64 (checkD t (bs s))) (fun _ _ => rfl) (fun t s hs => by
  obtain ⟨r, h, H, m, wr, rfl⟩ := rcheck_fn t s hs
  exact ⟨H, m, wr, h⟩)
end Go.Proofs.Ytcggcoijhdagnaa
/- DERIVED. Data: what fits, by the document. -/
namespace Go.Proofs.Ytcggcoijhdagnaa
open Go Go.RowKit
theorem front_len {l : Bs} {k : Nat} (h : front l = some k) : k ≤ 255 := by
  have hle := front_le h
  unfold front at h
  split at h
  · rename_i j hj
    split at h
    · rename_i hl
      cases h
      have := labels_len hl
      rw [List.length_take] at this; omega
    · cases h
  · cases h
def Pt.small : Pt → Bool
  | .nm => true
  | .rest => false
  | .sz k => k.ble 255
theorem cuts_len : ∀ (ps : List Pt) (l : Bs) (o : List (Bs × Bool)) (r : Bs), ps.all Pt.small = true → cuts ps l = some (o, r) → l.length ≤ 255 * ps.length + r.length
  | [], l, o, r, _, h => by simp only [cuts, Option.some.injEq, Prod.mk.injEq] at h; obtain ⟨_, rfl⟩ := h; omega
  | p :: ps, l, o, r, ha, h => by
    simp only [List.all_cons, Bool.and_eq_true] at ha
    simp only [cuts] at h
    cases hc : p.cut l with
    | none => rw [hc] at h; cases h
    | some n =>
      rw [hc] at h
      simp only [] at h
      obtain ⟨⟨o', r'⟩, h1, h2⟩ := Option.map_eq_some_iff.1 h
      simp only [Prod.mk.injEq] at h2
      obtain ⟨_, rfl⟩ := h2
      have ih := cuts_len ps _ _ _ ha.2 h1
      have hn : n ≤ 255 := by
        cases p with
        | nm => exact front_len hc
        | rest => cases ha.1
        | sz k =>
          simp only [Pt.cut] at hc
          split at hc <;> cases hc
          exact Nat.le_of_ble_eq_true ha.1
      simp only [List.length_cons, List.length_drop] at ih ⊢
      omega
theorem fits_len {t : Int} {ps : List Pt} {l : Bs} (hp : ptsT t = some ps) (hs : ps.all Pt.small = true) (hl : ps.length ≤ 3) (h : fitsD t l = true) : l.length ≤ 765 := by
  obtain ⟨o, h1, _⟩ := fits_out hp h
  have := cuts_len ps l o [] hs h1
  simp only [List.length_nil] at this
  omega
theorem check_fits {t : Int} {ps : List Pt} {l : Bs} (hp : ptsT t = some ps) (hs : ps.all Pt.small = true) (hl : ps.length ≤ 3) (h0 : 0 ≤ t ∧ t ≤ 65535) (h : fitsD t l = true) : checkD t l = 0 := by
  have := fits_len hp hs hl h
  unfold checkD
  rw [if_neg (by omega), if_neg (by omega), h]; rfl
theorem check_not {t : Int} {l : Bs} (h : fitsD t l = false) : checkD t l ≠ 0 := fun e => by
  rw [(check_zero e).2.2.2] at h; cases h
theorem fits_no {t : Int} {l : Bs} (h : (cutsR (prT t) l).isSome = false) : fitsD t l = false := by rw [← fits_ref, h]; rfl
theorem fits_rest {t : Int} {l : Bs} (h : (rpR t l).isEmpty = false) : fitsD t l = false := by rw [← fits_ref, h, Bool.and_false]
theorem fits_yes {t : Int} {l : Bs} (h : (cutsR (prT t) l).isSome = true) (h2 : (rpR t l).isEmpty = true) : fitsD t l = true := by rw [← fits_ref, h, h2]; rfl
theorem rpO_of {t : Int} {ps : List Pt} {l : Bs} {o : List (Bs × Bool)} {r : Bs} (hp : ptsT t = some ps) (h : outT t l = some (o, r)) : rpO t l = o.map (·.1) := by
  unfold rpO
  unfold outT at h
  rw [hp] at h
  have h : cuts ps l = some (o, r) := h
  rw [cutsR_known hp, h]; rfl
theorem size8 {s : ByteArray} (h : (bs s).length ≤ 100000000) : s.data.size.ble 100000000 = true := by rw [bs_size]; exact Nat.ble_eq_true_of_le h

noncomputable def tbF5 : Tb Try.prog 0 := tbOf mixed [ct_rparts, ct_rrdcheck, ct_form]
end Go.Proofs.Ytcggcoijhdagnaa
/- DERIVED. Data: the document's Lower. -/
namespace Go.Proofs.Ytcggcoijhdagnaa
open Go Go.RowKit
def lowI (x : Int × Bs) : Bs := if x.1 = -1 then lower x.2 else x.2
theorem lowI_len (x : Int × Bs) : (lowI x).length = x.2.length := by unfold lowI; split <;> simp [lower_len]
def sumZ (Z : List (Int × Bs)) : Nat := (Z.flatMap fun p => p.2).length
theorem sumZ_at (Z : List (Int × Bs)) (p : Int × Bs) (h : p ∈ Z) : p.2.length ≤ sumZ Z := by
  unfold sumZ
  induction Z with
  | nil => cases h
  | cons q r ih =>
    rw [List.flatMap_cons, List.length_append]
    rcases List.mem_cons.1 h with e | e
    · rw [e]; omega
    · have := ih e; omega
theorem lowI_sum (Z : List (Int × Bs)) (i : Nat) : ((Z.take i).flatMap lowI).length ≤ sumZ Z := by
  unfold sumZ
  induction Z generalizing i with
  | nil => simp
  | cons p r ih =>
    cases i with
    | zero => simp
    | succ i =>
      have := ih i
      simp only [List.take_succ_cons, List.flatMap_cons, List.length_append, lowI_len]; omega
theorem lowI_take (Z : List (Int × Bs)) (i : Nat) (h : i < Z.length) : (Z.take (i + 1)).flatMap lowI = (Z.take i).flatMap lowI ++ lowI Z[i] := by
  rw [List.take_succ_eq_append_getElem h, List.flatMap_append]; simp only [List.flatMap_cons, List.flatMap_nil, List.append_nil]
def zi (x : Int × Bs) : Value := intV x.1
def zs (x : Int × Bs) : Value := str x.2
theorem zi_plain (l : List (Int × Bs)) : plainL (l.map zi) = true := by simp [plainL, plainV, zi, intV]
theorem zs_plain (l : List (Int × Bs)) : plainL (l.map zs) = true := by simp [plainL, plainV, zs, str]
def rlS (Z : List (Int × Bs)) (x : Nat × ByteArray) (f : Nat → Option Value) : Fs :=
  ⟨slots 7 [(5, .slice (some ⟨0, 0, none⟩) Z.length Z.length), (6, .slice (some ⟨1, 0, none⟩) Z.length U), (8, .string x.2), (9, .int .i64 x.1)] f, heap 2 [(0, .cells (Z.map zi) 3), (1, .cells (Z.map zs) 9)], 2, [], []⟩
theorem zip_low : ∀ (ps : List Pt) (l : Bs) (o : List (Bs × Bool)) (r : Bs), cuts ps l = some (o, r) → (((ps.map Pt.pr).map Pr.i).zip (o.map (·.1))).flatMap lowI = o.flatMap lowP
  | [], l, o, r, h => by simp only [cuts, Option.some.injEq, Prod.mk.injEq] at h; obtain ⟨rfl, _⟩ := h; rfl
  | p :: ps, l, o, r, h => by
    simp only [cuts] at h
    cases hc : p.cut l with
    | none => rw [hc] at h; cases h
    | some n =>
      rw [hc] at h
      simp only [] at h
      obtain ⟨⟨o', r'⟩, h1, h2⟩ := Option.map_eq_some_iff.1 h
      simp only [Prod.mk.injEq] at h2
      obtain ⟨rfl, rfl⟩ := h2
      have ih := zip_low ps _ _ _ h1
      simp only [List.map_cons, List.zip_cons_cons, List.flatMap_cons, ih]
      congr 1
      unfold lowI lowP
      cases p with
      | nm => rfl
      | rest => rfl
      | sz k =>
        have hk : ¬ (Pr.sz k).i = -1 := by show ¬ ((k : Nat) : Int) = -1; omega
        exact (if_neg hk).trans rfl
theorem prT_some {t : Int} {ps : List Pt} (h : ptsT t = some ps) : prT t = ps.map Pt.pr := by
  unfold ptsT at h
  unfold prT
  by_cases h1 : t = 1
  · subst h1; cases h; rfl
  by_cases h2 : t = 28
  · subst h2; cases h; rfl
  by_cases h3 : t = 2
  · subst h3; cases h; rfl
  by_cases h4 : t = 5
  · subst h4; cases h; rfl
  by_cases h5 : t = 12
  · subst h5; cases h; rfl
  by_cases h6 : t = 15
  · subst h6; cases h; rfl
  by_cases h7 : t = 6
  · subst h7; cases h; rfl
  by_cases h8 : t = 16
  · subst h8; cases h; rfl
  · exfalso
    rw [show (t == 1) = false by simpa using h1, show (t == 28) = false by simpa using h2, show (t == 2) = false by simpa using h3, show (t == 5) = false by simpa using h4, show (t == 12) = false by simpa using h5, show (t == 15) = false by simpa using h6, show (t == 6) = false by simpa using h7, show (t == 16) = false by simpa using h8] at h
    cases h
/-- What is known of a type's parts. -/
theorem ptsT_case {t : Int} {ps : List Pt} (h : ptsT t = some ps) : (0 ≤ t ∧ t ≤ 65535) ∧ ((ps.all Pt.small = true ∧ ps.length ≤ 3) ∨ ps = [.rest]) := by
  unfold ptsT at h
  by_cases h1 : t = 1
  · subst h1; cases h; exact ⟨by decide, .inl ⟨rfl, by decide⟩⟩
  by_cases h2 : t = 28
  · subst h2; cases h; exact ⟨by decide, .inl ⟨rfl, by decide⟩⟩
  by_cases h3 : t = 2
  · subst h3; cases h; exact ⟨by decide, .inl ⟨rfl, by decide⟩⟩
  by_cases h4 : t = 5
  · subst h4; cases h; exact ⟨by decide, .inl ⟨rfl, by decide⟩⟩
  by_cases h5 : t = 12
  · subst h5; cases h; exact ⟨by decide, .inl ⟨rfl, by decide⟩⟩
  by_cases h6 : t = 15
  · subst h6; cases h; exact ⟨by decide, .inl ⟨rfl, by decide⟩⟩
  by_cases h7 : t = 6
  · subst h7; cases h; exact ⟨by decide, .inl ⟨rfl, by decide⟩⟩
  by_cases h8 : t = 16
  · subst h8; cases h; exact ⟨by decide, .inr rfl⟩
  · exfalso
    rw [show (t == 1) = false by simpa using h1, show (t == 28) = false by simpa using h2, show (t == 2) = false by simpa using h3, show (t == 5) = false by simpa using h4, show (t == 12) = false by simpa using h5, show (t == 15) = false by simpa using h6, show (t == 6) = false by simpa using h7, show (t == 16) = false by simpa using h8] at h
    cases h
/-- Where Check says no, Lower leaves data as they are. -/
theorem lower_no {t : Int} {l : Bs} (h : checkD t l ≠ 0) : lowerD t l = l := by
  unfold lowerD
  cases hp : ptsT t with
  | none => rfl
  | some ps =>
    simp only [Option.isSome_some, cond_true]
    cases hf : fitsD t l with
    | false =>
      unfold fitsD at hf
      rw [hp] at hf
      simp only [Option.isSome_some, cond_true] at hf
      rw [hf]; rfl
    | true =>
      obtain ⟨hr, ⟨h1, h2⟩ | h1⟩ := ptsT_case hp
      · exact absurd (check_fits hp h1 h2 hr hf) h
      · subst h1
        obtain ⟨o, q1, q2⟩ := fits_out hp hf
        have e1 : outP t l = o := by unfold outP; rw [q2]
        rw [q2, e1]
        obtain ⟨w1, w2⟩ := cuts_sum _ _ _ _ q1
        simp only [cuts] at q1
        cases hc : Pt.rest.cut l with
        | none => rw [hc] at q1; cases q1
        | some n =>
          rw [hc] at q1
          simp only [Option.map_some, Option.some.injEq, Prod.mk.injEq] at q1
          obtain ⟨rfl, _⟩ := q1
          have hb : (outR t l).isEmpty = true := by unfold outR; rw [q2]; rfl
          rw [hb]
          simpa [lowP, Pt.isName] using w2
theorem rlower_eq {t : Int} {l : Bs} (h1 : (cutsR (prT t) l).isSome = true) (h2 : (rpR t l).isEmpty = true) : ((formL t).zip (rpO t l)).flatMap lowI = lowerD t l ∧ (formL t).length = (rpO t l).length ∧ (rpO t l).flatten = l := by
  have hf := fits_yes h1 h2
  unfold lowerD
  cases hp : ptsT t with
  | none =>
    have e : rpO t l = [l] := by unfold rpO; rw [prT_none hp]; simp [cutsR, Pr.cut]
    have e2 : formL t = [-3] := by rw [(prT_form t).1, prT_none hp]; rfl
    rw [e, e2]
    exact ⟨by simp [lowI], rfl, by simp⟩
  | some ps =>
    obtain ⟨o, q1, q2⟩ := fits_out hp hf
    have e1 : outP t l = o := by unfold outP; rw [q2]
    have e2 : (outR t l).isEmpty = true := by unfold outR; rw [q2]; rfl
    obtain ⟨w1, w2⟩ := cuts_sum _ _ _ _ q1
    rw [rpO_of hp q2, (prT_form t).1, prT_some hp, zip_low ps l o [] q1]
    simp only [Option.isSome_some, cond_true, e1, e2, q2, Bool.and_self]
    refine ⟨trivial, by simp [w1], ?_⟩
    rw [List.append_nil] at w2
    rw [← List.flatMap_def]; exact w2

end Go.Proofs.Ytcggcoijhdagnaa
/- DERIVED. What is known of the document's names, as contracts. -/
namespace Go.Proofs.Ytcggcoijhdagnaa
open Go Go.RowKit
end Go.Proofs.Ytcggcoijhdagnaa
/- DERIVED. Records: numbers that may be. -/
namespace Go.Proofs.Ytcggcoijhdagnaa
open Go Go.RowKit
noncomputable def tbR1 : Tb Try.prog 0 := tbOf mixed []
def numB (n m : Int) : Bool := decide (0 ≤ n ∧ n ≤ m)
set_option maxRecDepth 100000 in
theorem number_fn (n m : Int) : ∃ r, FnS Try.prog 0 69 [.int .i64 n, .int .i64 m] .e 0 r ∧ ∃ H k wr, r = .ret (.bool (numB n m)) H k wr := by
  refine fn_sx mixed tbR1 [] Try.func69 (c := bodyOf Try.f69) (by kernel_rfl) ?_
  unfold numB
  refine ifK (fun h1 => ?_) (fun h1 => ?_)
  · have h1 := of_decide_eq_true h1
    rw [show decide (0 ≤ n ∧ n ≤ m) = decide (n ≤ m) by rw [decide_eq_decide]; exact ⟨fun h => h.2, fun h => ⟨h1, h⟩⟩]
    exact ⟨_, _, _, rfl⟩
  · have h1 := of_decide_eq_false h1
    rw [show decide (0 ≤ n ∧ n ≤ m) = false by rw [decide_eq_false_iff_not]; exact fun h => h1 h.1]
    exact ⟨_, _, _, rfl⟩
set_option maxRecDepth 100000 in
theorem short_fn (n : Int) : ∃ r, FnS Try.prog 0 93 [.int .i64 n] .e 0 r ∧ ∃ H k wr, r = .ret (.bool (numB n 65535)) H k wr := by
  refine fn_sx mixed tbR1 [] Try.func93 (c := bodyOf Try.f93) (by kernel_rfl) ?_
  unfold numB
  refine ifK (fun h1 => ?_) (fun h1 => ?_)
  · have h1 := of_decide_eq_true h1
    rw [show decide (0 ≤ n ∧ n ≤ 65535) = decide (n ≤ 65535) by rw [decide_eq_decide]; exact ⟨fun h => h.2, fun h => ⟨h1, h⟩⟩]
    exact ⟨_, _, _, rfl⟩
  · have h1 := of_decide_eq_false h1
    rw [show decide (0 ≤ n ∧ n ≤ 65535) = false by rw [decide_eq_false_iff_not]; exact fun h => h1 h.1]
    exact ⟨_, _, _, rfl⟩
/-- A function of plain data of one shape, as a contract. -/
def Ct.sh {X : Type} (f : FuncId) (mt : List Value → Option X) (args : X → List Value) (hm : ∀ l x, mt l = some x → l = args x) (pre : X → Bool) (out : X → Value) (ha : ∀ x, plainL (args x) = true) (hp : ∀ x, plainV 8 (out x) = true) (ok : ∀ x, pre x = true → ∃ H m wr, FnS Try.prog 0 f (args x) .e 0 (.ret (out x) H m wr)) : Ct Try.prog 0 where
  f := f
  res l H n := match mt l with | some x => bif pre x then .ret (out x) H n [] else .bad "not such" [] | none => .bad "arguments" []
  ok l H n := by
    cases h : mt l with
    | none => trivial
    | some x =>
      cases hx : pre x with
      | false => simp only [hx]; trivial
      | true =>
        simp only [hx, cond_true]
        rw [hm l x h]
        obtain ⟨_, _, _, hF⟩ := ok x hx
        exact callOK_pure hF (ha x) (hp x) H n
  ck l H n K := match mt l with | some x => pre x = true ∧ K (.ret (out x) H n []) | none => False
  imp l H n K h := by
    cases hm : mt l with
    | none => rw [hm] at h; exact h.elim
    | some x =>
      rw [hm] at h
      obtain ⟨h1, h2⟩ := h
      simp only [h1, cond_true]; exact h2
def mtI2 : List Value → Option (Int × Int) | [.int .i64 a, .int .i64 b] => some (a, b) | _ => none
def mtI1 : List Value → Option Int | [.int .i64 a] => some a | _ => none
theorem mtI2_ok (l : List Value) (x : Int × Int) (h : mtI2 l = some x) : l = [.int .i64 x.1, .int .i64 x.2] := by
  unfold mtI2 at h; split at h <;> cases h; rfl
theorem mtI1_ok (l : List Value) (x : Int) (h : mtI1 l = some x) : l = [.int .i64 x] := by
  unfold mtI1 at h; split at h <;> cases h; rfl
/-- A function of numbers of which nothing is asked. -/
def Ct.i2 (f : FuncId) (out : Int → Int → Value) (hp : ∀ x y, plainV 8 (out x y) = true) (ok : ∀ x y, ∃ H m wr, FnS Try.prog 0 f [.int .i64 x, .int .i64 y] .e 0 (.ret (out x y) H m wr)) : Ct Try.prog 0 where
  f := f
  res l H n := match l with | [.int .i64 x, .int .i64 y] => .ret (out x y) H n [] | _ => .bad "arguments" []
  ok l H n := by
    split
    · rename_i x y
      obtain ⟨_, _, _, h⟩ := ok x y
      exact callOK_pure h rfl (hp x y) H n
    · trivial
  ck l H n K := match l with | [.int .i64 x, .int .i64 y] => K (.ret (out x y) H n []) | _ => False
  imp l H n K h := by
    split at h
    · exact h
    · exact h.elim
def Ct.i1 (f : FuncId) (out : Int → Value) (hp : ∀ x, plainV 8 (out x) = true) (ok : ∀ x, ∃ H m wr, FnS Try.prog 0 f [.int .i64 x] .e 0 (.ret (out x) H m wr)) : Ct Try.prog 0 where
  f := f
  res l H n := match l with | [.int .i64 x] => .ret (out x) H n [] | _ => .bad "arguments" []
  ok l H n := by
    split
    · rename_i x
      obtain ⟨_, _, _, h⟩ := ok x
      exact callOK_pure h rfl (hp x) H n
    · trivial
  ck l H n K := match l with | [.int .i64 x] => K (.ret (out x) H n []) | _ => False
  imp l H n K h := by
    split at h
    · exact h
    · exact h.elim
def ct_number : Ct Try.prog 0 := Ct.i2 69 (fun x y => .bool (numB x y)) (fun _ _ => rfl) (fun x y => by obtain ⟨r, h, H, m, wr, rfl⟩ := number_fn x y; exact ⟨H, m, wr, h⟩)
def ct_rshort : Ct Try.prog 0 := Ct.i1 93 (fun x => .bool (numB x 65535)) (fun _ => rfl) (fun x => by obtain ⟨r, h, H, m, wr, rfl⟩ := short_fn x; exact ⟨H, m, wr, h⟩)
/-- A record, its parts. -/
structure RcX where
  n : ByteArray
  t : Int
  c : Int
  ttl : Int
  d : ByteArray
def RcX.v (x : RcX) : Value := .agg #[.string x.n, .int .i64 x.t, .int .i64 x.c, .int .i64 x.ttl, .string x.d]
def RcX.ok (x : RcX) : Bool := x.n.data.size.ble 100000000 && x.d.data.size.ble 100000000
noncomputable def tbR2 : Tb Try.prog 0 := tbOf mixed [ct_number, ct_rshort, ct_check, ct_rcheck, ct_rdcheck, ct_rrdcheck]
end Go.Proofs.Ytcggcoijhdagnaa
/- DERIVED. Records: Check, lower. -/
namespace Go.Proofs.Ytcggcoijhdagnaa
open Go Go.RowKit
def mtR : List Value → Option RcX
  | [.agg ⟨[.string n, .int .i64 t, .int .i64 c, .int .i64 ttl, .string d]⟩] => some ⟨n, t, c, ttl, d⟩
  | _ => none
def mtRR : List Value → Option (RcX × RcX)
  | [.agg ⟨[.string n, .int .i64 t, .int .i64 c, .int .i64 ttl, .string d]⟩, .agg ⟨[.string n', .int .i64 t', .int .i64 c', .int .i64 ttl', .string d']⟩] => some (⟨n, t, c, ttl, d⟩, ⟨n', t', c', ttl', d'⟩)
  | _ => none
theorem mtR_ok (l : List Value) (x : RcX) (h : mtR l = some x) : l = [x.v] := by
  unfold mtR at h; split at h <;> cases h; rfl
theorem mtRR_ok (l : List Value) (x : RcX × RcX) (h : mtRR l = some x) : l = [x.1.v, x.2.v] := by
  unfold mtRR at h; split at h <;> cases h; rfl
theorem RcX.ok1 {x : RcX} (h : x.ok = true) : (bs x.n).length ≤ 100000000 ∧ (bs x.d).length ≤ 100000000 := by
  unfold RcX.ok at h
  simp only [Bool.and_eq_true] at h
  rw [← bs_size, ← bs_size]
  exact ⟨Nat.le_of_ble_eq_true h.1, Nat.le_of_ble_eq_true h.2⟩
theorem size8' {s : ByteArray} (h : (bs s).length ≤ 100000000) : s.data.size.ble 100000000 = true := by rw [bs_size]; exact Nat.ble_eq_true_of_le h
/-- What Check tells of a record. -/
def recC (x : RcX) : Int := if (labels (bs x.n)).2 ≠ 0 then (labels (bs x.n)).2 else if numB x.t 65535 && numB x.c 65535 && numB x.ttl 2147483647 then checkD x.t (bs x.d) else 5
set_option maxRecDepth 100000 in
theorem rcheckR_fn (x : RcX) (hx : x.ok = true) : ∃ r, FnS Try.prog 0 53 [x.v] .e 0 r ∧ ∃ H k wr, r = .ret (.int .i64 (recC x)) H k wr := by
  obtain ⟨hn, hd⟩ := RcX.ok1 hx
  refine fn_sx mixed tbR2 [] Try.func53 (c := bodyOf Try.f53) (by kernel_rfl) ?_
  unfold recC
  refine And.intro (shortB_of (by omega)) ?_
  refine ifK (fun h1 => ?_) (fun h1 => ?_)
  · rw [if_pos (by simpa using h1)]; exact ⟨_, _, _, rfl⟩
  rw [if_neg (by simpa using h1)]
  refine ifK (fun h2 => ?_) (fun h2 => ?_)
  · rw [show numB x.t 65535 = false by simpa using h2]; exact ⟨_, _, _, rfl⟩
  rw [show numB x.t 65535 = true by simpa using h2]
  refine ifK (fun h3 => ?_) (fun h3 => ?_)
  · rw [show numB x.c 65535 = false by simpa using h3]; exact ⟨_, _, _, rfl⟩
  rw [show numB x.c 65535 = true by simpa using h3]
  refine ifK (fun h4 => ?_) (fun h4 => ?_)
  · rw [show numB x.ttl 2147483647 = false by simpa using h4]; exact ⟨_, _, _, rfl⟩
  rw [show numB x.ttl 2147483647 = true by simpa using h4]
  refine And.intro (shortB_of (by omega)) ?_
  exact ⟨_, _, _, rfl⟩
set_option maxRecDepth 100000 in
theorem rrcheckR_fn (x : RcX) (hx : x.ok = true) : ∃ r, FnS Try.prog 0 76 [x.v] .e 0 r ∧ ∃ H k wr, r = .ret (.int .i64 (recC x)) H k wr := by
  obtain ⟨hn, hd⟩ := RcX.ok1 hx
  refine fn_sx mixed tbR2 [] Try.func76 (c := bodyOf Try.f76) (by kernel_rfl) ?_
  unfold recC
  refine And.intro (shortB_of (by omega)) ?_
  refine ifK (fun h1 => ?_) (fun h1 => ?_)
  · rw [if_pos (by simpa using h1)]; exact ⟨_, _, _, rfl⟩
  rw [if_neg (by simpa using h1)]
  refine ifK (fun h2 => ?_) (fun h2 => ?_)
  · rw [show numB x.t 65535 = false by simpa using h2]; exact ⟨_, _, _, rfl⟩
  rw [show numB x.t 65535 = true by simpa using h2]
  refine ifK (fun h3 => ?_) (fun h3 => ?_)
  · rw [show numB x.c 65535 = false by simpa using h3]; exact ⟨_, _, _, rfl⟩
  rw [show numB x.c 65535 = true by simpa using h3]
  refine ifK (fun h4 => ?_) (fun h4 => ?_)
  · have h4 := of_decide_eq_true h4
    rw [show numB x.ttl 2147483647 = false by unfold numB; rw [decide_eq_false_iff_not]; omega]; exact ⟨_, _, _, rfl⟩
  have h4 := of_decide_eq_false h4
  refine ifK (fun h5 => ?_) (fun h5 => ?_)
  · have h5 := of_decide_eq_true h5
    rw [show numB x.ttl 2147483647 = false by unfold numB; rw [decide_eq_false_iff_not]; omega]; exact ⟨_, _, _, rfl⟩
  have h5 := of_decide_eq_false h5
  rw [show numB x.ttl 2147483647 = true by unfold numB; rw [decide_eq_true_iff]; omega]
  refine And.intro (size8' hd) ?_
  exact ⟨_, _, _, rfl⟩
/-- A record in lower form. -/
def RcX.low (x : RcX) : RcX := ⟨⟨(lower (bs x.n)).toArray⟩, x.t, x.c, 0, ⟨(lowerD x.t (bs x.d)).toArray⟩⟩
def ct_recCheck : Ct Try.prog 0 := Ct.sh 53 mtR (fun x => [x.v]) mtR_ok RcX.ok (fun x => .int .i64 (recC x)) (fun _ => rfl) (fun _ => rfl) (fun x hx => by obtain ⟨r, h, H, m, wr, rfl⟩ := rcheckR_fn x hx; exact ⟨H, m, wr, h⟩)
def ct_rrecCheck : Ct Try.prog 0 := Ct.sh 76 mtR (fun x => [x.v]) mtR_ok RcX.ok (fun x => .int .i64 (recC x)) (fun _ => rfl) (fun _ => rfl) (fun x hx => by obtain ⟨r, h, H, m, wr, rfl⟩ := rrcheckR_fn x hx; exact ⟨H, m, wr, h⟩)
noncomputable def tbR3 : Tb Try.prog 0 := tbOf mixed [ct_recCheck, ct_rrecCheck]
end Go.Proofs.Ytcggcoijhdagnaa
/- DERIVED. Records: Same. -/
namespace Go.Proofs.Ytcggcoijhdagnaa
open Go Go.RowKit
def lowEq (x y : RcX) : Bool := x.low.n.data.toList == y.low.n.data.toList && (x.low.t == y.low.t && (x.low.c == y.low.c && (x.low.ttl == y.low.ttl && (x.low.d.data.toList == y.low.d.data.toList && true))))
/-- Are two records the same? -/
def sameR (x y : RcX) : Bool := (recC x == 0) && ((recC y == 0) && lowEq x y)
theorem recC_zero {x : RcX} (h : recC x = 0) : (labels (bs x.n)).2 = 0 ∧ numB x.t 65535 = true ∧ numB x.c 65535 = true ∧ numB x.ttl 2147483647 = true ∧ checkD x.t (bs x.d) = 0 := by
  unfold recC at h
  split at h
  · rename_i h1; exact absurd h h1
  · rename_i h1
    split at h
    · rename_i h2
      simp only [Bool.and_eq_true] at h2
      exact ⟨by simpa using h1, h2.1.1, h2.1.2, h2.2, h⟩
    · cases h
theorem low_n (x : RcX) : x.low.n.data.toList = lower (bs x.n) := by simp [RcX.low]
theorem low_d (x : RcX) : x.low.d.data.toList = lowerD x.t (bs x.d) := by simp [RcX.low]
theorem lowEq_iff (x y : RcX) : lowEq x y = true ↔ lower (bs x.n) = lower (bs y.n) ∧ x.t = y.t ∧ x.c = y.c ∧ lowerD x.t (bs x.d) = lowerD y.t (bs y.d) := by
  unfold lowEq
  rw [low_n, low_n, low_d, low_d]
  simp only [Bool.and_eq_true, beq_iff_eq, Bool.and_true]
  exact ⟨fun ⟨a, b, c, _, d⟩ => ⟨a, b, c, d⟩, fun ⟨a, b, c, d⟩ => ⟨a, b, c, rfl, d⟩⟩
def okRR (x : RcX × RcX) : Bool := x.1.ok && x.2.ok
/-- How records lie. -/
def RcX.g (x : RcX) : List Value := [.string x.n, .int .i64 x.t, .int .i64 x.c, .int .i64 x.ttl, .string x.d]
def layR : Lay RcX where
  g := RcX.g
  k := 5
  t := 69
  len _ := rfl
  pos := by decide
  plain _ := rfl
  inj x y h := by
    obtain ⟨n, t, c, l, d⟩ := x
    obtain ⟨n', t', c', l', d'⟩ := y
    simp only [RcX.g, List.cons.injEq, Value.string.injEq, Value.int.injEq, true_and, and_true] at h
    obtain ⟨rfl, rfl, rfl, rfl, rfl⟩ := h; rfl
/-- Is a record big? -/
def bigR (n : Int) (x : RcX) : Bool := decide ((x.n.data.size : Int) > n) || decide ((x.d.data.size : Int) > n)
noncomputable def tbR4 : Tb Try.prog 0 := tbOf mixed []
end Go.Proofs.Ytcggcoijhdagnaa
/- DERIVED. Records: are some big? -/
namespace Go.Proofs.Ytcggcoijhdagnaa
open Go Go.RowKit
def bigS (a b : List Value) (l : List RcX) (c : Nat) (n : Int) (i : Nat) (f : Nat → Option Value) : Fs := ⟨slots 6 [(0, .slice (some ⟨0, a.length, none⟩) l.length c), (1, .int .i64 n), (5, .int .i64 i)] f, heap 1 [(0, .win (a ++ l.flatMap layR.g ++ b) layR.k)], 1, [], []⟩
set_option maxRecDepth 100000 in
theorem bigRecs_fn (a b : List Value) (l : List RcX) (c : Nat) (n : Int) (ha : plainL a = true) (hb : plainL b = true) (hl : l.length ≤ 9223372036854775807) : ∃ r, FnS Try.prog 0 59 [.slice (some ⟨0, a.length, none⟩) l.length c, .int .i64 n] (heap 1 [(0, .win (a ++ l.flatMap layR.g ++ b) layR.k)]) 1 r ∧ ∃ H m wr, r = .ret (.bool (l.any (bigR n))) H m wr ∧ ∀ k ∈ wr, 1 ≤ k := by
  have hplain : plainL (a ++ l.flatMap layR.g ++ b) = true := by rw [plainL_append, plainL_append, ha, hb, flat_plain layR.g layR.plain]; rfl
  have hsz : (Try.prog.types[69]).size = 5 := by kernel_rfl
  refine fn_sx mixed tbR4 [0] Try.func59 (c := bodyOf Try.f59) (by kernel_rfl) ?_
  refine loop_goX (bigS a b l c n) (fun i => l.length - i) (fun i => i ≤ l.length ∧ l.any (bigR n) = (l.drop i).any (bigR n)) 0 ⟨Nat.zero_le _, rfl⟩ (rc_slots [] rfl rfl rfl (fun l e => by cases e) (by decide) (by decide) rfl rfl (wr_of rfl) ⟨⟨_, rfl, .sl _ _ _ _ _ rfl⟩, ⟨_, rfl, .int _ _⟩, ⟨_, rfl, .int _ _⟩, trivial⟩ ⟨⟨by decide, _, rfl, .sameW hplain⟩, trivial⟩ .nil) ?_
  rintro i f ⟨hi, heq⟩
  refine sx_ok tbR4 [0] 1 _ none mixed _ _ _ ?_
  refine ifK (fun h1 => ?_) (fun h1 => ?_)
  · have h1 : i < l.length := by have := of_decide_eq_true h1; omega
    have hst : (l.drop i).any (bigR n) = (bigR n l[i] || (l.drop (i + 1)).any (bigR n)) := by rw [List.drop_eq_getElem_cons h1]; rfl
    rw [hst] at heq
    have c0 := RdL.cell layR a b l i 0 h1 (by decide)
    have c4 := RdL.cell layR a b l i 4 h1 (by decide)
    refine ifK (fun _ => ?_) (fun h2 => absurd h2 (by simp [inI]; omega))
    refine Exists.intro l[i].n (And.intro (by rw [hsz, Int.toNat_natCast]; exact c0) ?_)
    refine ifK (fun h2 => ?_) (fun h2 => ?_)
    · have e : l.any (bigR n) = true := by rw [heq]; unfold bigR; rw [h2]; rfl
      refine And.intro rfl (rc_end (rc_slots [] rfl rfl rfl (fun l e => by cases e) (by decide) (by decide) rfl rfl (wr_of rfl) (d := 6) (d2 := 0) (lv := [(4, .bool true)]) (bs := []) (W := []) (m := 1) (df := []) ⟨⟨_, rfl, plain_rv 8 rfl⟩, trivial⟩ trivial .nil) (fun f => ?_))
      rw [e]; exact ⟨_, _, _, rfl, wr_ge rfl⟩
    · refine ifK (fun _ => ?_) (fun h3 => absurd h3 (by simp [inI]; omega))
      refine Exists.intro l[i].d (And.intro (by rw [hsz, Int.toNat_natCast]; exact c4) ?_)
      refine ifK (fun h3 => ?_) (fun h3 => ?_)
      · have e : l.any (bigR n) = true := by rw [heq]; unfold bigR; rw [h3]; simp
        refine And.intro rfl (rc_end (rc_slots [] rfl rfl rfl (fun l e => by cases e) (by decide) (by decide) rfl rfl (wr_of rfl) (d := 6) (d2 := 0) (lv := [(4, .bool true)]) (bs := []) (W := []) (m := 1) (df := []) ⟨⟨_, rfl, plain_rv 8 rfl⟩, trivial⟩ trivial .nil) (fun f => ?_))
        rw [e]; exact ⟨_, _, _, rfl, wr_ge rfl⟩
      · refine ⟨i + 1, ⟨h1, ?_⟩, by omega, rc_slots [] rfl rfl rfl (fun l e => by cases e) (by decide) (by decide) rfl rfl (wr_of rfl) ⟨⟨_, rfl, .sl _ _ _ _ _ rfl⟩, ⟨_, rfl, .int _ _⟩, slot_int rfl (by rw [wrapN (by omega) (by omega)]; omega), trivial⟩ ⟨⟨by decide, _, rfl, .sameW hplain⟩, trivial⟩ .nil⟩
        rw [heq]; unfold bigR; rw [h2, h3]; rfl
  · have h1 : ¬ i < l.length := by have := of_decide_eq_false h1; omega
    have e : l.any (bigR n) = false := by rw [heq, List.drop_eq_nil_of_le (by omega)]; rfl
    refine And.intro rfl (rc_end (rc_slots [] rfl rfl rfl (fun l e => by cases e) (by decide) (by decide) rfl rfl (wr_of rfl) (d := 6) (d2 := 0) (lv := []) (bs := []) (W := []) (m := 1) (df := []) trivial trivial .nil) (fun f => ?_))
    rw [e]; exact ⟨_, _, _, rfl, wr_ge rfl⟩
noncomputable def ct_bigRecs : Ct Try.prog 0 := CtR.rd1 layR 59 Int (fun n => [.int .i64 n]) (fun l n => .bool (l.any (bigR n))) (fun l _ => l.length ≤ 9223372036854775807) (fun _ => rfl) (fun _ _ => rfl) (fun y z h => by simpa using h) (by kernel_rfl)
  (fun c a b l n ha hb hl => by obtain ⟨r, hF, H, m, wr, rfl, hw⟩ := bigRecs_fn a b l c n ha hb hl; exact ⟨H, m, wr, hF, hw⟩)
end Go.Proofs.Ytcggcoijhdagnaa
/- DERIVED. Messages as values: their parts, lists two at a time, contracts told apart by what is nil. -/
namespace Go.Proofs.Ytcggcoijhdagnaa
open Go Go.RowKit
deriving instance DecidableEq for RcX
/-- A question, its parts. -/
structure QuX where
  n : ByteArray
  t : Int
  c : Int
  deriving DecidableEq
def QuX.v (x : QuX) : Value := .agg #[.string x.n, .int .i64 x.t, .int .i64 x.c]
def QuX.g (x : QuX) : List Value := [.string x.n, .int .i64 x.t, .int .i64 x.c]
def layQ : Lay QuX where
  g := QuX.g
  k := 3
  t := 57
  len _ := rfl
  pos := by decide
  plain _ := rfl
  inj x y h := by
    obtain ⟨n, t, c⟩ := x
    obtain ⟨n', t', c'⟩ := y
    simp only [QuX.g, List.cons.injEq, Value.string.injEq, Value.int.injEq, true_and, and_true] at h
    obtain ⟨rfl, rfl, rfl⟩ := h; rfl
/-- Contracts told apart by the arguments. -/
def Ct.alt {P : Program} {g0 : Nat} (p : List Value → Bool) (c d : Ct P g0) (h : d.f = c.f) : Ct P g0 where
  f := c.f
  res a H n := bif p a then c.res a H n else d.res a H n
  ok a H n := by
    cases hp : p a with
    | true => exact c.ok a H n
    | false => rw [← h]; exact d.ok a H n
  ck a H n K := bif p a then c.ck a H n K else d.ck a H n K
  imp a H n K hk := by
    cases hp : p a with
    | true => rw [hp] at hk; exact c.imp a H n K hk
    | false => rw [hp] at hk; exact d.imp a H n K hk
def isNil : Value → Bool
  | .slice none _ _ => true
  | _ => false
def nil0 : List Value → Bool
  | x :: _ => isNil x
  | _ => false
/-- A function that reads two lists. -/
noncomputable def CtR.rd2 {P : Program} {α β : Type} (L : Lay α) (M : Lay β) (f : FuncId) (Y : Type) (args : Y → List Value) (out : List α → List β → Y → Value) (pre : List α → List β → Y → Prop) (hp : ∀ y, plainL (args y) = true) (hv : ∀ x z y, plainV 8 (out x z y) = true) (inj : ∀ y z, args y = args z → y = z)
    (hz : (P.info? L.t).map (·.size) = some L.k) (hz2 : (P.info? M.t).map (·.size) = some M.k)
    (ok : ∀ (c1 c2 : Nat) (a1 b1 a2 b2 : List Value) (l1 : List α) (l2 : List β) (y : Y), plainL a1 = true → plainL b1 = true → plainL a2 = true → plainL b2 = true → pre l1 l2 y → ∃ H m wr, FnS P 0 f (.slice (some ⟨0, a1.length, none⟩) l1.length c1 :: .slice (some ⟨1, a2.length, none⟩) l2.length c2 :: args y) (heap 2 [(0, .win (a1 ++ l1.flatMap L.g ++ b1) L.k), (1, .win (a2 ++ l2.flatMap M.g ++ b2) M.k)]) 2 (.ret (out l1 l2 y) H m wr) ∧ ∀ k ∈ wr, 2 ≤ k) : Ct P 0 :=
  CtR.ct { f, X := RdL α × RdL β × Y, pre := fun x a H _ => a = x.1.sl :: x.2.1.sl :: args x.2.2 ∧ x.1.at L H ∧ x.2.1.at M H ∧ pre x.1.l x.2.1.l x.2.2, out := fun x H n => .ret (out x.1.l x.2.1.l x.2.2) H n [],
           ok := fun ⟨⟨b, c, a, l, z⟩, ⟨b', c', a', l', z'⟩, y⟩ as0 H m ⟨h1, h2, h3, h4⟩ => by
             subst h1
             obtain ⟨H', m', wr, hF, hw⟩ := ok c c' a z a' z' l l' y h2.2.1 h2.2.2 h3.2.1 h3.2.2 h4
             show CallOK P 0 f _ H m (.ret (out l l' y) H m [])
             obtain ⟨o1, e1, r1⟩ := h2.1.ro (P := P) (σ := caR [b, b']) (RdL.plain h2.2.1 h2.2.2) hz
             obtain ⟨o2, e2, r2⟩ := h3.1.ro (P := P) (σ := caR [b, b']) (RdL.plain h3.2.1 h3.2.2) hz2
             exact callOK_reads [b, b'] hF hw (dup_win (fun x hx => by simp only [List.mem_cons, List.not_mem_nil, or_false] at hx; rcases hx with rfl | rfl <;> trivial)) (.cons _ _ _ _ (.sl _ _ _ _ _ rfl) (.cons _ _ _ _ (.sl _ _ _ _ _ rfl) (plain_rl (hp y)))) (callB_of ⟨⟨b, o1, rfl, e1, r1⟩, ⟨b', o2, rfl, e2, r2⟩, trivial⟩) (hv _ _ _),
           uniq := fun ⟨x, x2, y⟩ ⟨z, z2, y'⟩ a H m ⟨h1, h2, h3, _⟩ ⟨k1, k2, k3, _⟩ => by
             rw [h1] at k1
             simp only [List.cons.injEq] at k1
             rw [RdL.uniq k1.1 h2 k2, RdL.uniq k1.2.1 h3 k3, inj _ _ k1.2.2] }
theorem seesB_of {H : Tr AObj} {b : Nat} {t : TypeId} {z : Nat} {C : List Value} (h : (H.get b).bind (AObj.as t z) = some C) : seesB H b t z C := h
/-- A message whose lists lie somewhere. -/
structure MsL where
  id : Int
  fl : Int
  q : RdL QuX
  an : RdL RcX
  ns : RdL RcX
  ar : RdL RcX
def MsL.v (m : MsL) : Value := .agg #[.int .i64 m.id, .int .i64 m.fl, m.q.sl, m.an.sl, m.ns.sl, m.ar.sl]
def MsL.at (m : MsL) (H : Tr AObj) : Prop := m.q.at layQ H ∧ m.an.at layR H ∧ m.ns.at layR H ∧ m.ar.at layR H
def MsL.heap (m : MsL) : Tr AObj := Go.Proofs.Ytcggcoijhdagnaa.heap 3 [(0, .win (m.q.cells layQ) layQ.k), (1, .win (m.an.cells layR) layR.k), (2, .win (m.ns.cells layR) layR.k), (3, .win (m.ar.cells layR) layR.k)]
def MsL.own (m : MsL) : MsL := ⟨m.id, m.fl, { m.q with b := 0 }, { m.an with b := 1 }, { m.ns with b := 2 }, { m.ar with b := 3 }⟩
theorem layQ_size : (Try.prog.info? layQ.t).map (·.size) = some layQ.k := by kernel_rfl
theorem layR_size : (Try.prog.info? layR.t).map (·.size) = some layR.k := by kernel_rfl
theorem MsL.uniq {m m' : MsL} {H : Tr AObj} (h : m.v = m'.v) (h1 : m.at H) (h2 : m'.at H) : m = m' := by
  obtain ⟨id, fl, q, an, ns, ar⟩ := m
  obtain ⟨id', fl', q', an', ns', ar'⟩ := m'
  simp only [MsL.v, Value.agg.injEq, Array.mk.injEq, List.cons.injEq, Value.int.injEq, true_and, and_true] at h
  obtain ⟨rfl, rfl, a1, a2, a3, a4⟩ := h
  obtain ⟨b1, b2, b3, b4⟩ := h1
  obtain ⟨c1, c2, c3, c4⟩ := h2
  rw [RdL.uniq a1 b1 c1, RdL.uniq a2 b2 c2, RdL.uniq a3 b3 c3, RdL.uniq a4 b4 c4]
/-- A function that reads a message. -/
noncomputable def CtR.msg (f : FuncId) (Y : Type) (args : Y → List Value) (out : MsL → Y → Value) (pre : MsL → Y → Prop) (hp : ∀ y, plainL (args y) = true) (hv : ∀ x y, plainV 8 (out x y) = true) (inj : ∀ y z, args y = args z → y = z)
    (ok : ∀ (m : MsL) (y : Y), m.q.b = 0 → m.an.b = 1 → m.ns.b = 2 → m.ar.b = 3 → m.at m.heap → pre m y → ∃ H k wr, FnS Try.prog 0 f (m.v :: args y) m.heap 4 (.ret (out m y) H k wr) ∧ ∀ i ∈ wr, 4 ≤ i)
    (ho : ∀ m y, out m.own y = out m y) (hpo : ∀ m y, pre m y → pre m.own y) : Ct Try.prog 0 :=
  CtR.ct { f, X := MsL × Y, pre := fun x a H _ => a = x.1.v :: args x.2 ∧ x.1.at H ∧ pre x.1 x.2, out := fun x H n => .ret (out x.1 x.2) H n [],
           ok := fun ⟨m, y⟩ as0 H k ⟨h1, h2, h3⟩ => by
             subst h1
             obtain ⟨c1, c2, c3, c4⟩ := h2
             have hat : m.own.at m.own.heap := ⟨⟨seesB_of (by kernel_rfl), c1.2⟩, ⟨seesB_of (by kernel_rfl), c2.2⟩, ⟨seesB_of (by kernel_rfl), c3.2⟩, ⟨seesB_of (by kernel_rfl), c4.2⟩⟩
             obtain ⟨H', m', wr, hF, hw⟩ := ok m.own y rfl rfl rfl rfl hat (hpo _ _ h3)
             rw [ho] at hF
             show CallOK Try.prog 0 f _ H k (.ret (out m y) H k [])
             obtain ⟨o1, e1, r1⟩ := c1.1.ro (P := Try.prog) (σ := caR [m.q.b, m.an.b, m.ns.b, m.ar.b]) (RdL.plain c1.2.1 c1.2.2) layQ_size
             obtain ⟨o2, e2, r2⟩ := c2.1.ro (P := Try.prog) (σ := caR [m.q.b, m.an.b, m.ns.b, m.ar.b]) (RdL.plain c2.2.1 c2.2.2) layR_size
             obtain ⟨o3, e3, r3⟩ := c3.1.ro (P := Try.prog) (σ := caR [m.q.b, m.an.b, m.ns.b, m.ar.b]) (RdL.plain c3.2.1 c3.2.2) layR_size
             obtain ⟨o4, e4, r4⟩ := c4.1.ro (P := Try.prog) (σ := caR [m.q.b, m.an.b, m.ns.b, m.ar.b]) (RdL.plain c4.2.1 c4.2.2) layR_size
             exact callOK_reads [m.q.b, m.an.b, m.ns.b, m.ar.b] hF hw (dup_win (fun x hx => by simp only [List.mem_cons, List.not_mem_nil, or_false] at hx; rcases hx with rfl | rfl | rfl | rfl <;> trivial))
               (.cons _ _ _ _ (.agg _ _ (.cons _ _ _ _ (.int _ _) (.cons _ _ _ _ (.int _ _) (.cons _ _ _ _ (.sl _ _ _ _ _ rfl) (.cons _ _ _ _ (.sl _ _ _ _ _ rfl) (.cons _ _ _ _ (.sl _ _ _ _ _ rfl) (.cons _ _ _ _ (.sl _ _ _ _ _ rfl) .nil))))))) (plain_rl (hp y)))
               (callB_of ⟨⟨_, o1, rfl, e1, r1⟩, ⟨_, o2, rfl, e2, r2⟩, ⟨_, o3, rfl, e3, r3⟩, ⟨_, o4, rfl, e4, r4⟩, trivial⟩) (hv _ _),
           uniq := fun ⟨x, y⟩ ⟨x', y'⟩ a H m ⟨h1, h2, _⟩ ⟨k1, k2, _⟩ => by
             rw [h1] at k1
             simp only [List.cons.injEq] at k1
             rw [MsL.uniq k1.1 h2 k2, inj _ _ k1.2] }
end Go.Proofs.Ytcggcoijhdagnaa
/- DERIVED. Messages: lists that are the same. -/
namespace Go.Proofs.Ytcggcoijhdagnaa
open Go Go.RowKit
noncomputable def tbMs2 : Tb Try.prog 0 := tbOf mixed []
theorem take_step {α : Type} {l m : List α} {i : Nat} (h1 : i < l.length) (h2 : i < m.length) (h : l.take i = m.take i) (he : l[i] = m[i]) : l.take (i + 1) = m.take (i + 1) := by
  rw [List.take_succ_eq_append_getElem h1, List.take_succ_eq_append_getElem h2, h, he]
theorem get_of_eq {α : Type} {l m : List α} {i : Nat} (h1 : i < l.length) (h2 : i < m.length) (e : l = m) : l[i] = m[i] := by subst e; rfl
theorem toL_inj {a b : ByteArray} (h : a.data.toList = b.data.toList) : a = b := ByteArray.ext (Array.toList_inj.1 h)
theorem struct_q : structOk Try.prog 57 = true := by kernel_rfl
theorem struct_r : structOk Try.prog 69 = true := by kernel_rfl
def sameQS (a1 b1 a2 b2 : List Value) (l1 l2 : List QuX) (c1 c2 : Nat) (i : Nat) (f : Nat → Option Value) : Fs := ⟨slots 6 [(0, .slice (some ⟨0, a1.length, none⟩) l1.length c1), (1, .slice (some ⟨1, a2.length, none⟩) l2.length c2), (5, .int .i64 (i : Nat))] f, heap 2 [(0, .win (a1 ++ l1.flatMap layQ.g ++ b1) layQ.k), (1, .win (a2 ++ l2.flatMap layQ.g ++ b2) layQ.k)], 2, [], []⟩
set_option maxRecDepth 1000000 in
set_option maxHeartbeats 4000000 in
theorem sameQ_fn (c1 c2 : Nat) (a1 b1 a2 b2 : List Value) (l1 l2 : List QuX) (ha1 : plainL a1 = true) (hb1 : plainL b1 = true) (ha2 : plainL a2 = true) (hb2 : plainL b2 = true) (hl : l1.length ≤ 9223372036854775807) :
    ∃ r, FnS Try.prog 0 32 [.slice (some ⟨0, a1.length, none⟩) l1.length c1, .slice (some ⟨1, a2.length, none⟩) l2.length c2] (heap 2 [(0, .win (a1 ++ l1.flatMap layQ.g ++ b1) layQ.k), (1, .win (a2 ++ l2.flatMap layQ.g ++ b2) layQ.k)]) 2 r ∧ ∃ H m wr, r = .ret (.bool (decide (l1 = l2))) H m wr ∧ ∀ k ∈ wr, 2 ≤ k := by
  have hp1 : plainL (a1 ++ l1.flatMap layQ.g ++ b1) = true := by rw [plainL_append, plainL_append, ha1, hb1, flat_plain layQ.g layQ.plain]; rfl
  have hp2 : plainL (a2 ++ l2.flatMap layQ.g ++ b2) = true := by rw [plainL_append, plainL_append, ha2, hb2, flat_plain layQ.g layQ.plain]; rfl
  have hsz : (Try.prog.types[57]).size = 3 := by kernel_rfl
  refine fn_sx mixed tbMs2 [0, 1] Try.func32 (c := bodyOf Try.f32) (by kernel_rfl) ?_
  refine ifK (fun g => ?_) (fun g => ?_)
  · have e : decide (l1 = l2) = false := decide_eq_false (fun e => by subst e; simp at g)
    rw [e]; exact ⟨_, _, _, rfl, wr_ge rfl⟩
  have hlen : l1.length = l2.length := by
    have hz : (l1.length : Int) = l2.length := by simpa using g
    omega
  refine loop_goX (sameQS a1 b1 a2 b2 l1 l2 c1 c2) (fun i => l1.length - i) (fun i => i ≤ l1.length ∧ l1.take i = l2.take i) 0 ⟨Nat.zero_le _, rfl⟩ (rc_slots [] rfl rfl rfl (fun l e => by cases e) (by decide) (by decide) rfl rfl (wr_of rfl) ⟨⟨_, rfl, .sl _ _ _ _ _ rfl⟩, ⟨_, rfl, .sl _ _ _ _ _ rfl⟩, ⟨_, rfl, .int _ _⟩, trivial⟩ ⟨⟨by decide, _, rfl, .sameW (hp1)⟩, ⟨by decide, _, rfl, .sameW (hp2)⟩, trivial⟩ .nil) ?_
  rintro i f ⟨hi, heq⟩
  refine sx_ok tbMs2 [0, 1] 2 _ none mixed _ _ _ ?_
  refine ifK (fun h1 => ?_) (fun h1 => ?_)
  · have h1 : i < l1.length := by have := of_decide_eq_true h1; omega
    have h2 : i < l2.length := by omega
    have g1 := RdL.get layQ a1 b1 l1 i h1
    have g2 := RdL.get layQ a2 b2 l2 i h2
    refine And.intro (by kernel_rfl) ?_
    refine ifK (fun _ => ?_) (fun h2 => absurd h2 (by simp [inI]; omega))
    refine Exists.intro l1[i].n ( Exists.intro l1[i].t ( Exists.intro l1[i].c (And.intro (by rw [hsz, Int.toNat_natCast]; exact g1) ?_)))
    refine ifK (fun _ => ?_) (fun h2 => absurd h2 (by simp [inI]; omega))
    refine Exists.intro l2[i].n ( Exists.intro l2[i].t ( Exists.intro l2[i].c (And.intro (by rw [hsz, Int.toNat_natCast]; exact g2) ?_)))
    refine And.intro struct_q ?_
    refine ifK (fun h3 => ?_) (fun h3 => ?_)
    · have e : decide (l1 = l2) = false := decide_eq_false (fun e => by
        have he : l1[i] = l2[i] := get_of_eq h1 h2 e
        rw [he] at h3; simp at h3)
      refine And.intro rfl (rc_end (rc_slots [] rfl rfl rfl (fun l e => by cases e) (by decide) (by decide) rfl rfl (wr_of rfl) (d := 6) (d2 := 0) (lv := [(4, .bool false)]) (bs := []) (W := []) (m := 2) (df := []) ⟨⟨_, rfl, plain_rv 8 rfl⟩, trivial⟩ trivial .nil) (fun f => ?_))
      rw [e]; exact ⟨_, _, _, rfl, wr_ge rfl⟩
    · refine ⟨i + 1, ⟨h1, take_step h1 h2 heq ?_⟩, by omega, rc_slots [] rfl rfl rfl (fun l e => by cases e) (by decide) (by decide) rfl rfl (wr_of rfl) ⟨⟨_, rfl, .sl _ _ _ _ _ rfl⟩, ⟨_, rfl, .sl _ _ _ _ _ rfl⟩, slot_int rfl (by rw [wrapN (by omega) (by omega)]; omega), trivial⟩ ⟨⟨by decide, _, rfl, .sameW (hp1)⟩, ⟨by decide, _, rfl, .sameW (hp2)⟩, trivial⟩ .nil⟩
      simp only [Bool.not_eq_false', Bool.and_eq_true, beq_iff_eq, Bool.and_true] at h3
      obtain ⟨q0, q1, q2⟩ := h3
      cases hx : l1[i] with | mk x0 x1 x2 =>
      cases hy : l2[i] with | mk y0 y1 y2 =>
      rw [hx, hy] at q0 q1 q2
      simp only at q0 q1 q2
      rw [toL_inj q0, q1, q2]
  · have h1 : ¬ i < l1.length := by have := of_decide_eq_false h1; omega
    have e : decide (l1 = l2) = true := decide_eq_true (by
      have := heq
      rwa [List.take_of_length_le (by omega), List.take_of_length_le (by omega)] at this)
    refine And.intro rfl (rc_end (rc_slots [] rfl rfl rfl (fun l e => by cases e) (by decide) (by decide) rfl rfl (wr_of rfl) (d := 6) (d2 := 0) (lv := []) (bs := []) (W := []) (m := 2) (df := []) trivial trivial .nil) (fun f => ?_))
    rw [e]; exact ⟨_, _, _, rfl, wr_ge rfl⟩
noncomputable def inl_sameQ : Ct Try.prog 0 := Ct.inl tbMs2 mixed [] 32 Try.f32 Try.func32 (bodyOf Try.f32) (by kernel_rfl)
noncomputable def ct_sameQ : Ct Try.prog 0 := Ct.alt nil0 inl_sameQ (CtR.rd2 layQ layQ 32 Unit (fun _ => []) (fun l1 l2 _ => .bool (decide (l1 = l2))) (fun l1 _ _ => l1.length ≤ 9223372036854775807) (fun _ => rfl) (fun _ _ _ => rfl) (fun _ _ _ => rfl) layQ_size layQ_size
  (fun c1 c2 a1 b1 a2 b2 l1 l2 _ h1 h2 h3 h4 hl => by obtain ⟨r, hF, H, m, wr, rfl, hw⟩ := sameQ_fn c1 c2 a1 b1 a2 b2 l1 l2 h1 h2 h3 h4 hl; exact ⟨H, m, wr, hF, hw⟩)) (by kernel_rfl)
def sameRsS (a1 b1 a2 b2 : List Value) (l1 l2 : List RcX) (c1 c2 : Nat) (i : Nat) (f : Nat → Option Value) : Fs := ⟨slots 6 [(0, .slice (some ⟨0, a1.length, none⟩) l1.length c1), (1, .slice (some ⟨1, a2.length, none⟩) l2.length c2), (5, .int .i64 (i : Nat))] f, heap 2 [(0, .win (a1 ++ l1.flatMap layR.g ++ b1) layR.k), (1, .win (a2 ++ l2.flatMap layR.g ++ b2) layR.k)], 2, [], []⟩
set_option maxRecDepth 1000000 in
set_option maxHeartbeats 4000000 in
theorem sameRs_fn (c1 c2 : Nat) (a1 b1 a2 b2 : List Value) (l1 l2 : List RcX) (ha1 : plainL a1 = true) (hb1 : plainL b1 = true) (ha2 : plainL a2 = true) (hb2 : plainL b2 = true) (hl : l1.length ≤ 9223372036854775807) :
    ∃ r, FnS Try.prog 0 58 [.slice (some ⟨0, a1.length, none⟩) l1.length c1, .slice (some ⟨1, a2.length, none⟩) l2.length c2] (heap 2 [(0, .win (a1 ++ l1.flatMap layR.g ++ b1) layR.k), (1, .win (a2 ++ l2.flatMap layR.g ++ b2) layR.k)]) 2 r ∧ ∃ H m wr, r = .ret (.bool (decide (l1 = l2))) H m wr ∧ ∀ k ∈ wr, 2 ≤ k := by
  have hp1 : plainL (a1 ++ l1.flatMap layR.g ++ b1) = true := by rw [plainL_append, plainL_append, ha1, hb1, flat_plain layR.g layR.plain]; rfl
  have hp2 : plainL (a2 ++ l2.flatMap layR.g ++ b2) = true := by rw [plainL_append, plainL_append, ha2, hb2, flat_plain layR.g layR.plain]; rfl
  have hsz : (Try.prog.types[69]).size = 5 := by kernel_rfl
  refine fn_sx mixed tbMs2 [0, 1] Try.func58 (c := bodyOf Try.f58) (by kernel_rfl) ?_
  refine ifK (fun g => ?_) (fun g => ?_)
  · have e : decide (l1 = l2) = false := decide_eq_false (fun e => by subst e; simp at g)
    rw [e]; exact ⟨_, _, _, rfl, wr_ge rfl⟩
  have hlen : l1.length = l2.length := by
    have hz : (l1.length : Int) = l2.length := by simpa using g
    omega
  refine loop_goX (sameRsS a1 b1 a2 b2 l1 l2 c1 c2) (fun i => l1.length - i) (fun i => i ≤ l1.length ∧ l1.take i = l2.take i) 0 ⟨Nat.zero_le _, rfl⟩ (rc_slots [] rfl rfl rfl (fun l e => by cases e) (by decide) (by decide) rfl rfl (wr_of rfl) ⟨⟨_, rfl, .sl _ _ _ _ _ rfl⟩, ⟨_, rfl, .sl _ _ _ _ _ rfl⟩, ⟨_, rfl, .int _ _⟩, trivial⟩ ⟨⟨by decide, _, rfl, .sameW (hp1)⟩, ⟨by decide, _, rfl, .sameW (hp2)⟩, trivial⟩ .nil) ?_
  rintro i f ⟨hi, heq⟩
  refine sx_ok tbMs2 [0, 1] 2 _ none mixed _ _ _ ?_
  refine ifK (fun h1 => ?_) (fun h1 => ?_)
  · have h1 : i < l1.length := by have := of_decide_eq_true h1; omega
    have h2 : i < l2.length := by omega
    have g1 := RdL.get layR a1 b1 l1 i h1
    have g2 := RdL.get layR a2 b2 l2 i h2
    refine And.intro (by kernel_rfl) ?_
    refine ifK (fun _ => ?_) (fun h2 => absurd h2 (by simp [inI]; omega))
    refine Exists.intro l1[i].n ( Exists.intro l1[i].t ( Exists.intro l1[i].c ( Exists.intro l1[i].ttl ( Exists.intro l1[i].d (And.intro (by rw [hsz, Int.toNat_natCast]; exact g1) ?_)))))
    refine ifK (fun _ => ?_) (fun h2 => absurd h2 (by simp [inI]; omega))
    refine Exists.intro l2[i].n ( Exists.intro l2[i].t ( Exists.intro l2[i].c ( Exists.intro l2[i].ttl ( Exists.intro l2[i].d (And.intro (by rw [hsz, Int.toNat_natCast]; exact g2) ?_)))))
    refine And.intro struct_r ?_
    refine ifK (fun h3 => ?_) (fun h3 => ?_)
    · have e : decide (l1 = l2) = false := decide_eq_false (fun e => by
        have he : l1[i] = l2[i] := get_of_eq h1 h2 e
        rw [he] at h3; simp at h3)
      refine And.intro rfl (rc_end (rc_slots [] rfl rfl rfl (fun l e => by cases e) (by decide) (by decide) rfl rfl (wr_of rfl) (d := 6) (d2 := 0) (lv := [(4, .bool false)]) (bs := []) (W := []) (m := 2) (df := []) ⟨⟨_, rfl, plain_rv 8 rfl⟩, trivial⟩ trivial .nil) (fun f => ?_))
      rw [e]; exact ⟨_, _, _, rfl, wr_ge rfl⟩
    · refine ⟨i + 1, ⟨h1, take_step h1 h2 heq ?_⟩, by omega, rc_slots [] rfl rfl rfl (fun l e => by cases e) (by decide) (by decide) rfl rfl (wr_of rfl) ⟨⟨_, rfl, .sl _ _ _ _ _ rfl⟩, ⟨_, rfl, .sl _ _ _ _ _ rfl⟩, slot_int rfl (by rw [wrapN (by omega) (by omega)]; omega), trivial⟩ ⟨⟨by decide, _, rfl, .sameW (hp1)⟩, ⟨by decide, _, rfl, .sameW (hp2)⟩, trivial⟩ .nil⟩
      simp only [Bool.not_eq_false', Bool.and_eq_true, beq_iff_eq, Bool.and_true] at h3
      obtain ⟨q0, q1, q2, q3, q4⟩ := h3
      cases hx : l1[i] with | mk x0 x1 x2 x3 x4 =>
      cases hy : l2[i] with | mk y0 y1 y2 y3 y4 =>
      rw [hx, hy] at q0 q1 q2 q3 q4
      simp only at q0 q1 q2 q3 q4
      rw [toL_inj q0, q1, q2, q3, toL_inj q4]
  · have h1 : ¬ i < l1.length := by have := of_decide_eq_false h1; omega
    have e : decide (l1 = l2) = true := decide_eq_true (by
      have := heq
      rwa [List.take_of_length_le (by omega), List.take_of_length_le (by omega)] at this)
    refine And.intro rfl (rc_end (rc_slots [] rfl rfl rfl (fun l e => by cases e) (by decide) (by decide) rfl rfl (wr_of rfl) (d := 6) (d2 := 0) (lv := []) (bs := []) (W := []) (m := 2) (df := []) trivial trivial .nil) (fun f => ?_))
    rw [e]; exact ⟨_, _, _, rfl, wr_ge rfl⟩
noncomputable def inl_sameRs : Ct Try.prog 0 := Ct.inl tbMs2 mixed [] 58 Try.f58 Try.func58 (bodyOf Try.f58) (by kernel_rfl)
noncomputable def ct_sameRs : Ct Try.prog 0 := Ct.alt nil0 inl_sameRs (CtR.rd2 layR layR 58 Unit (fun _ => []) (fun l1 l2 _ => .bool (decide (l1 = l2))) (fun l1 _ _ => l1.length ≤ 9223372036854775807) (fun _ => rfl) (fun _ _ _ => rfl) (fun _ _ _ => rfl) layR_size layR_size
  (fun c1 c2 a1 b1 a2 b2 l1 l2 _ h1 h2 h3 h4 hl => by obtain ⟨r, hF, H, m, wr, rfl, hw⟩ := sameRs_fn c1 c2 a1 b1 a2 b2 l1 l2 h1 h2 h3 h4 hl; exact ⟨H, m, wr, hF, hw⟩)) (by kernel_rfl)
end Go.Proofs.Ytcggcoijhdagnaa
/- DERIVED. Messages: is one big? -/
namespace Go.Proofs.Ytcggcoijhdagnaa
open Go Go.RowKit
noncomputable def tbMs3 : Tb Try.prog 0 := tbOf mixed [ct_bigRecs]
def lenI (m : MsL) : Int := IntKind.i64.wrap (IntKind.i64.wrap (IntKind.i64.wrap ((m.q.l.length : Int) + (m.an.l.length : Int)) + (m.ns.l.length : Int)) + (m.ar.l.length : Int))
def bigQ (y : Int) (x : QuX) : Bool := decide ((x.n.data.size : Int) > y)
def bigMs (n y : Int) (m : MsL) : Bool := decide (lenI m > n) || (m.q.l.any (bigQ y) || (m.an.l.any (bigR y) || (m.ns.l.any (bigR y) || m.ar.l.any (bigR y))))
def MsL.fit (m : MsL) : Prop := m.q.l.length ≤ 9223372036854775807 ∧ m.an.l.length ≤ 9223372036854775807 ∧ m.ns.l.length ≤ 9223372036854775807 ∧ m.ar.l.length ≤ 9223372036854775807
def MsL.cellsV (m : MsL) : List Value := [.int .i64 m.id, .int .i64 m.fl, m.q.sl, m.an.sl, m.ns.sl, m.ar.sl]
/-- A message's windows, and what else lies there. -/
def msH (m : MsL) (bs : List (Nat × AObj)) : List (Nat × AObj) := (0, .win (m.q.cells layQ) layQ.k) :: (1, .win (m.an.cells layR) layR.k) :: (2, .win (m.ns.cells layR) layR.k) :: (3, .win (m.ar.cells layR) layR.k) :: bs
def bmS (m : MsL) (y : Int) (i : Nat) (f : Nat → Option Value) : Fs := ⟨slots 6 [(2, .int .i64 y), (3, .pointer (some ⟨4, 0, none⟩)), (7, .int .i64 (i : Nat))] f, heap 3 [(0, .win (m.q.cells layQ) layQ.k), (1, .win (m.an.cells layR) layR.k), (2, .win (m.ns.cells layR) layR.k), (3, .win (m.ar.cells layR) layR.k), (4, .cells [.int .i64 m.id, .int .i64 m.fl, m.q.sl, m.an.sl, m.ns.sl, m.ar.sl] 25)], 5, [], []⟩
/-- A message's box, named anew: the windows keep their names. -/
theorem msg_box {σ : Nat → Nat → Prop} {m : MsL} {t : TypeId} (h0 : σ m.q.b m.q.b := by rfl) (h1 : σ m.an.b m.an.b := by rfl) (h2 : σ m.ns.b m.ns.b := by rfl) (h3 : σ m.ar.b m.ar.b := by rfl) : RO Try.prog σ (.cells [.int .i64 m.id, .int .i64 m.fl, m.q.sl, m.an.sl, m.ns.sl, m.ar.sl] t) (.cells [.int .i64 m.id, .int .i64 m.fl, m.q.sl, m.an.sl, m.ns.sl, m.ar.sl] t) :=
  RO.cells [.int .i64 m.id, .int .i64 m.fl, m.q.sl, m.an.sl, m.ns.sl, m.ar.sl] [] _ t (.cons _ _ _ _ (.int _ _) (.cons _ _ _ _ (.int _ _) (.cons _ _ _ _ (.sl _ _ _ _ _ h0) (.cons _ _ _ _ (.sl _ _ _ _ _ h1) (.cons _ _ _ _ (.sl _ _ _ _ _ h2) (.cons _ _ _ _ (.sl _ _ _ _ _ h3) .nil))))))
set_option maxRecDepth 1000000 in
set_option maxHeartbeats 4000000 in
theorem bigMs_fn (m : MsL) (n y : Int) (b0 : m.q.b = 0) (b1 : m.an.b = 1) (b2 : m.ns.b = 2) (b3 : m.ar.b = 3) (hat : m.at m.heap) (hf : m.fit) :
    ∃ r, FnS Try.prog 0 31 [m.v, .int .i64 n, .int .i64 y] m.heap 4 r ∧ ∃ H k wr, r = .ret (.bool (bigMs n y m)) H k wr ∧ ∀ i ∈ wr, 4 ≤ i := by
  obtain ⟨id, fl, ⟨q0, qc, qp, ql, qz⟩, ⟨a0, ac, ap, al, az⟩, ⟨n0, nc, np, nl, nz⟩, ⟨r0, rc, rp, rl, rz⟩⟩ := m
  cases b0; cases b1; cases b2; cases b3
  obtain ⟨⟨_, hq1, hq2⟩, ⟨_, ha1, ha2⟩, ⟨_, hn1, hn2⟩, ⟨_, hr1, hr2⟩⟩ := hat
  obtain ⟨f1, f2, f3, f4⟩ := hf
  have f1 : ql.length ≤ 9223372036854775807 := f1
  have pq : plainL (RdL.cells layQ ⟨0, qc, qp, ql, qz⟩) = true := RdL.plain hq1 hq2
  have pa : plainL (RdL.cells layR ⟨1, ac, ap, al, az⟩) = true := RdL.plain ha1 ha2
  have pn : plainL (RdL.cells layR ⟨2, nc, np, nl, nz⟩) = true := RdL.plain hn1 hn2
  have pr : plainL (RdL.cells layR ⟨3, rc, rp, rl, rz⟩) = true := RdL.plain hr1 hr2
  have hsz : (Try.prog.types[57]).size = 3 := by kernel_rfl
  refine fn_sx mixed tbMs3 [0, 1, 2, 3] Try.func31 (c := bodyOf Try.f31) (by kernel_rfl) ?_
  unfold bigMs
  refine ifK (fun g => ?_) (fun g => ?_)
  · have e : decide (lenI ⟨id, fl, ⟨0, qc, qp, ql, qz⟩, ⟨1, ac, ap, al, az⟩, ⟨2, nc, np, nl, nz⟩, ⟨3, rc, rp, rl, rz⟩⟩ > n) = true := g
    rw [e]; exact ⟨_, _, _, rfl, wr_ge rfl⟩
  have e0 : decide (lenI ⟨id, fl, ⟨0, qc, qp, ql, qz⟩, ⟨1, ac, ap, al, az⟩, ⟨2, nc, np, nl, nz⟩, ⟨3, rc, rp, rl, rz⟩⟩ > n) = false := g
  rw [e0, Bool.false_or]
  refine loop_goX (bmS ⟨id, fl, ⟨0, qc, qp, ql, qz⟩, ⟨1, ac, ap, al, az⟩, ⟨2, nc, np, nl, nz⟩, ⟨3, rc, rp, rl, rz⟩⟩ y) (fun i => ql.length - i) (fun i => i ≤ ql.length ∧ ql.any (bigQ y) = (ql.drop i).any (bigQ y)) 0 ⟨Nat.zero_le _, rfl⟩
    (rc_slots [4] rfl rfl rfl (fun l e => by cases e) (by decide) (by decide) rfl rfl (wr_of rfl) ⟨⟨_, rfl, .int _ _⟩, ⟨_, rfl, .ptr _ _ _ rfl⟩, ⟨_, rfl, .int _ _⟩, trivial⟩ ⟨⟨by decide, _, rfl, .sameW (pq)⟩, ⟨by decide, _, rfl, .sameW (pa)⟩, ⟨by decide, _, rfl, .sameW (pn)⟩, ⟨by decide, _, rfl, .sameW (pr)⟩, ⟨by decide, _, rfl, msg_box⟩, trivial⟩ .nil) ?_
  rintro i f ⟨hi, heq⟩
  have hi : i ≤ ql.length := hi
  refine sx_ok tbMs3 [0, 1, 2, 3] 4 _ none mixed _ _ _ ?_
  refine ifK (fun h1 => ?_) (fun h1 => ?_)
  · have h1 : i < ql.length := by have h1 : ((i : Nat) : Int) < (ql.length : Int) := of_decide_eq_true h1; omega
    have hst : (ql.drop i).any (bigQ y) = (bigQ y ql[i] || (ql.drop (i + 1)).any (bigQ y)) := by rw [List.drop_eq_getElem_cons h1]; rfl
    rw [hst] at heq
    have c0 := RdL.cell layQ qp qz ql i 0 h1 (by decide)
    refine ifK (fun _ => ?_) (fun h2 => absurd h2 (by simp [inI]; omega))
    refine Exists.intro ql[i].n (And.intro (by rw [hsz, Int.toNat_natCast]; exact c0) ?_)
    refine ifK (fun h2 => ?_) (fun h2 => ?_)
    · have e : ql.any (bigQ y) = true := by rw [heq]; unfold bigQ; rw [h2]; rfl
      refine And.intro rfl (rc_end (rc_slots [] rfl rfl rfl (fun l e => by cases e) (by decide) (by decide) rfl rfl (wr_of rfl) (d := 6) (d2 := 0) (lv := [(6, .bool true)]) (bs := []) (W := []) (m := 4) (df := []) ⟨⟨_, rfl, plain_rv 8 rfl⟩, trivial⟩ trivial .nil) (fun f => ?_))
      rw [e]; exact ⟨_, _, _, rfl, wr_ge rfl⟩
    · refine ⟨i + 1, ⟨h1, ?_⟩, by show ql.length - (i + 1) < ql.length - i; omega, rc_slots [4] rfl rfl rfl (fun l e => by cases e) (by decide) (by decide) rfl rfl (wr_of rfl) ⟨⟨_, rfl, .int _ _⟩, ⟨_, rfl, .ptr _ _ _ rfl⟩, slot_int rfl (by rw [wrapN (by omega) (by omega)]; omega), trivial⟩ ⟨⟨by decide, _, rfl, .sameW (pq)⟩, ⟨by decide, _, rfl, .sameW (pa)⟩, ⟨by decide, _, rfl, .sameW (pn)⟩, ⟨by decide, _, rfl, .sameW (pr)⟩, ⟨by decide, _, rfl, msg_box⟩, trivial⟩ .nil⟩
      rw [heq]; unfold bigQ; rw [h2]; rfl
  · have h1 : ¬ i < ql.length := fun e => absurd (show ((i : Nat) : Int) < (ql.length : Int) by omega) (of_decide_eq_false h1)
    have e : ql.any (bigQ y) = false := by rw [heq, List.drop_eq_nil_of_le (by omega)]; rfl
    rw [e, Bool.false_or]
    refine And.intro rfl (rc_end (rc_slots [4] rfl rfl rfl (fun l e => by cases e) (by decide) (by decide) rfl rfl (wr_of rfl) (d := 6) (d2 := 3) (lv := [(2, .int .i64 y), (3, .pointer (some ⟨4, 0, none⟩))]) (bs := [(0, .win (RdL.cells layQ ⟨0, qc, qp, ql, qz⟩) layQ.k), (1, .win (RdL.cells layR ⟨1, ac, ap, al, az⟩) layR.k), (2, .win (RdL.cells layR ⟨2, nc, np, nl, nz⟩) layR.k), (3, .win (RdL.cells layR ⟨3, rc, rp, rl, rz⟩) layR.k), (4, .cells [.int .i64 id, .int .i64 fl, RdL.sl ⟨0, qc, qp, ql, qz⟩, RdL.sl ⟨1, ac, ap, al, az⟩, RdL.sl ⟨2, nc, np, nl, nz⟩, RdL.sl ⟨3, rc, rp, rl, rz⟩] 25)]) (W := []) (m := 5) (df := []) ⟨⟨_, rfl, .int _ _⟩, ⟨_, rfl, .ptr _ _ _ rfl⟩, trivial⟩ ⟨⟨by decide, _, rfl, .sameW (pq)⟩, ⟨by decide, _, rfl, .sameW (pa)⟩, ⟨by decide, _, rfl, .sameW (pn)⟩, ⟨by decide, _, rfl, .sameW (pr)⟩, ⟨by decide, _, rfl, msg_box (m := ⟨id, fl, ⟨0, qc, qp, ql, qz⟩, ⟨1, ac, ap, al, az⟩, ⟨2, nc, np, nl, nz⟩, ⟨3, rc, rp, rl, rz⟩⟩)⟩, trivial⟩ .nil) (fun f => ?_))
    refine Exists.intro (⟨1, ac, ap, al, az⟩, y) (And.intro ⟨rfl, ⟨seesB_of (by kernel_rfl), ha1, ha2⟩, f2⟩ ?_)
    refine ifK (fun g => ?_) (fun g => ?_)
    · have e : al.any (bigR y) = true := g
      rw [e]; exact ⟨_, _, _, rfl, wr_ge rfl⟩
    have e : al.any (bigR y) = false := g
    rw [e, Bool.false_or]
    refine Exists.intro (⟨2, nc, np, nl, nz⟩, y) (And.intro ⟨rfl, ⟨seesB_of (by kernel_rfl), hn1, hn2⟩, f3⟩ ?_)
    refine ifK (fun g => ?_) (fun g => ?_)
    · have e : nl.any (bigR y) = true := g
      rw [e]; exact ⟨_, _, _, rfl, wr_ge rfl⟩
    have e : nl.any (bigR y) = false := g
    rw [e, Bool.false_or]
    refine Exists.intro (⟨3, rc, rp, rl, rz⟩, y) (And.intro ⟨rfl, ⟨seesB_of (by kernel_rfl), hr1, hr2⟩, f4⟩ ?_)
    exact ⟨_, _, _, rfl, wr_ge rfl⟩
noncomputable def ct_bigMs : Ct Try.prog 0 := CtR.msg 31 (Int × Int) (fun y => [.int .i64 y.1, .int .i64 y.2]) (fun m y => .bool (bigMs y.1 y.2 m)) (fun m _ => m.fit) (fun _ => rfl) (fun _ _ => rfl) (fun y z h => by simp only [List.cons.injEq, Value.int.injEq, true_and, and_true] at h; exact Prod.ext h.1 h.2)
  (fun m y h0 h1 h2 h3 hat hp => by obtain ⟨r, hF, H, k, wr, rfl, hw⟩ := bigMs_fn m y.1 y.2 h0 h1 h2 h3 hat hp; exact ⟨H, k, wr, hF, hw⟩)
  (fun _ _ => rfl) (fun _ _ h => h)
end Go.Proofs.Ytcggcoijhdagnaa
/- DERIVED. The law's walk: RecChecks. -/
namespace Go.Proofs.Ytcggcoijhdagnaa
open Go Go.RowKit
noncomputable def tbR5 : Tb Try.prog 0 := tbOf mixed [ct_bigRecs, ct_recCheck, ct_rrecCheck]
theorem lowEq_refl (x : RcX) : lowEq x x = true := (lowEq_iff x x).2 ⟨rfl, rfl, rfl, rfl⟩
theorem lowEq_symm (x y : RcX) : lowEq x y = lowEq y x := by
  rw [Bool.eq_iff_iff, lowEq_iff, lowEq_iff]
  exact ⟨fun ⟨a, b, c, d⟩ => ⟨a.symm, b.symm, c.symm, d.symm⟩, fun ⟨a, b, c, d⟩ => ⟨a.symm, b.symm, c.symm, d.symm⟩⟩
theorem sameR_self (x : RcX) : sameR x x = (recC x == 0) := by unfold sameR; rw [lowEq_refl]; cases (recC x == 0) <;> rfl
theorem ok_of_small {x : RcX} {n : Int} (hn : n ≤ 100000000) (h : bigR n x = false) : x.ok = true := by
  unfold bigR at h
  simp only [Bool.or_eq_false_iff, decide_eq_false_iff_not] at h
  unfold RcX.ok
  rw [Nat.ble_eq_true_of_le (by omega), Nat.ble_eq_true_of_le (by omega)]; rfl
theorem okRR_of {x y : RcX} (hx : x.ok = true) (hy : y.ok = true) : okRR (x, y) = true := by unfold okRR; rw [hx, hy]; rfl
end Go.Proofs.Ytcggcoijhdagnaa
/- DERIVED. Messages: Check. -/
namespace Go.Proofs.Ytcggcoijhdagnaa
open Go Go.RowKit
noncomputable def inl_num : Ct Try.prog 0 := Ct.inl (tbOf mixed []) mixed [] 51 Try.f51 Try.func51 (bodyOf Try.f51) (by kernel_rfl)
noncomputable def inl_lists : Ct Try.prog 0 := Ct.inl (tbOf mixed []) mixed [] 46 Try.f46 Try.func46 (bodyOf Try.f46) (by kernel_rfl)
noncomputable def tbMs4 : Tb Try.prog 0 := tbOf mixed [inl_num, inl_lists, ct_check, ct_recCheck]
/-- The first fault in a list. -/
def firstE {α : Type} (f : α → Int) : List α → Int
  | [] => 0
  | x :: l => if f x ≠ 0 then f x else firstE f l
theorem firstE_drop {α : Type} (f : α → Int) (l : List α) (i : Nat) (h : i < l.length) : firstE f (l.drop i) = if f l[i] ≠ 0 then f l[i] else firstE f (l.drop (i + 1)) := by
  rw [List.drop_eq_getElem_cons h]; rfl
theorem firstE_end {α : Type} (f : α → Int) (l : List α) (i : Nat) (h : l.length ≤ i) : firstE f (l.drop i) = 0 := by rw [List.drop_eq_nil_of_le h]; rfl
/-- What Check tells of a question, of a message. -/
def quC (x : QuX) : Int := if (labels (bs x.n)).2 ≠ 0 then (labels (bs x.n)).2 else if numB x.t 65535 && numB x.c 65535 then 0 else 5
def msC (id fl : Int) (q : List QuX) (an ns ar : List RcX) : Int :=
  if (numB id 65535 && numB fl 65535) = false then 5
  else if (numB q.length 65535 && (numB an.length 65535 && (numB ns.length 65535 && numB ar.length 65535))) = false then 3
  else if firstE quC q ≠ 0 then firstE quC q
  else if firstE recC an ≠ 0 then firstE recC an
  else if firstE recC ns ≠ 0 then firstE recC ns
  else firstE recC ar
theorem numB_of {x n : Int} (h1 : decide (x ≥ 0) = true) (h2 : (!decide (x ≤ n)) = false) : numB x n = true := by
  have h1 := of_decide_eq_true h1
  simp only [Bool.not_eq_false', decide_eq_true_iff] at h2
  unfold numB; rw [decide_eq_true_iff]; exact ⟨h1, h2⟩
theorem numB_lo {x n : Int} (h1 : decide (x ≥ 0) = false) : numB x n = false := by
  have h1 := of_decide_eq_false h1
  unfold numB; rw [decide_eq_false_iff_not]; omega
theorem numB_hi {x n : Int} (h2 : (!decide (x ≤ n)) = true) : numB x n = false := by
  simp only [Bool.not_eq_true', decide_eq_false_iff_not] at h2
  unfold numB; rw [decide_eq_false_iff_not]; omega
theorem exitK {b : Bool} (h : b = true) {A B : Prop} (k : A) : bif b then A else B := by subst h; exact k
theorem numB_len {x : Nat} {n : Int} (h2 : (!decide ((x : Int) ≤ n)) = false) : numB (x : Int) n = true := numB_of (decide_eq_true (Int.natCast_nonneg _)) h2
def ckS1 (id fl : Int) (qc : Nat) (qp qz : List Value) (ql : List QuX) (ac : Nat) (ap az : List Value) (al : List RcX) (nc : Nat) (np nz : List Value) (nl : List RcX) (rc : Nat) (rp rz : List Value) (rl : List RcX) (i : Nat) (f : Nat → Option Value) : Fs := ⟨slots 7 [(1, .pointer (some ⟨4, 0, none⟩)), (48, RdL.sl ⟨0, qc, qp, ql, qz⟩), (49, .int .i64 ql.length), (50, .int .i64 i)] f, heap 3 [(0, .win (RdL.cells layQ ⟨0, qc, qp, ql, qz⟩) layQ.k), (1, .win (RdL.cells layR ⟨1, ac, ap, al, az⟩) layR.k), (2, .win (RdL.cells layR ⟨2, nc, np, nl, nz⟩) layR.k), (3, .win (RdL.cells layR ⟨3, rc, rp, rl, rz⟩) layR.k), (4, .cells [.int .i64 id, .int .i64 fl, RdL.sl ⟨0, qc, qp, ql, qz⟩, RdL.sl ⟨1, ac, ap, al, az⟩, RdL.sl ⟨2, nc, np, nl, nz⟩, RdL.sl ⟨3, rc, rp, rl, rz⟩] 25)], 5, [], []⟩
def ckS2 (id fl : Int) (qc : Nat) (qp qz : List Value) (ql : List QuX) (ac : Nat) (ap az : List Value) (al : List RcX) (nc : Nat) (np nz : List Value) (nl : List RcX) (rc : Nat) (rp rz : List Value) (rl : List RcX) (k : Int) (b : Nat) (yp : List Value) (yl : List RcX) (yc : Nat) (i : Nat) (f : Nat → Option Value) : Fs := ⟨slots 7 [(71, .agg #[.pointer (some ⟨4, 3, none⟩), .pointer (some ⟨4, 4, none⟩), .pointer (some ⟨4, 5, none⟩)]), (72, .int .i64 k), (77, .slice (some ⟨b, yp.length, none⟩) yl.length yc), (78, .int .i64 yl.length), (79, .int .i64 i)] f, heap 3 [(0, .win (RdL.cells layQ ⟨0, qc, qp, ql, qz⟩) layQ.k), (1, .win (RdL.cells layR ⟨1, ac, ap, al, az⟩) layR.k), (2, .win (RdL.cells layR ⟨2, nc, np, nl, nz⟩) layR.k), (3, .win (RdL.cells layR ⟨3, rc, rp, rl, rz⟩) layR.k), (4, .cells [.int .i64 id, .int .i64 fl, RdL.sl ⟨0, qc, qp, ql, qz⟩, RdL.sl ⟨1, ac, ap, al, az⟩, RdL.sl ⟨2, nc, np, nl, nz⟩, RdL.sl ⟨3, rc, rp, rl, rz⟩] 25)], 5, [], []⟩
set_option maxRecDepth 1000000 in
set_option maxHeartbeats 16000000 in
theorem msCheck_fn (id fl : Int) (qc : Nat) (qp qz : List Value) (ql : List QuX) (ac : Nat) (ap az : List Value) (al : List RcX) (nc : Nat) (np nz : List Value) (nl : List RcX) (rc : Nat) (rp rz : List Value) (rl : List RcX) (hq1 : plainL qp = true) (hq2 : plainL qz = true) (ha1 : plainL ap = true) (ha2 : plainL az = true) (hn1 : plainL np = true) (hn2 : plainL nz = true) (hr1 : plainL rp = true) (hr2 : plainL rz = true) (hq : ∀ x ∈ ql, shortB x.n = true) (ha : ∀ x ∈ al, x.ok = true) (hn : ∀ x ∈ nl, x.ok = true) (hr : ∀ x ∈ rl, x.ok = true) :
    ∃ r, FnS Try.prog 0 14 [.agg #[.int .i64 id, .int .i64 fl, RdL.sl ⟨0, qc, qp, ql, qz⟩, RdL.sl ⟨1, ac, ap, al, az⟩, RdL.sl ⟨2, nc, np, nl, nz⟩, RdL.sl ⟨3, rc, rp, rl, rz⟩]] (heap 3 [(0, .win (RdL.cells layQ ⟨0, qc, qp, ql, qz⟩) layQ.k), (1, .win (RdL.cells layR ⟨1, ac, ap, al, az⟩) layR.k), (2, .win (RdL.cells layR ⟨2, nc, np, nl, nz⟩) layR.k), (3, .win (RdL.cells layR ⟨3, rc, rp, rl, rz⟩) layR.k)]) 4 r ∧ ∃ H k wr, r = .ret (.int .i64 (msC id fl ql al nl rl)) H k wr ∧ ∀ i ∈ wr, 4 ≤ i := by
  have pq : plainL (RdL.cells layQ ⟨0, qc, qp, ql, qz⟩) = true := RdL.plain hq1 hq2
  have pa : plainL (RdL.cells layR ⟨1, ac, ap, al, az⟩) = true := RdL.plain ha1 ha2
  have pn : plainL (RdL.cells layR ⟨2, nc, np, nl, nz⟩) = true := RdL.plain hn1 hn2
  have pr : plainL (RdL.cells layR ⟨3, rc, rp, rl, rz⟩) = true := RdL.plain hr1 hr2
  have hsz : (Try.prog.types[57]).size = 3 := by kernel_rfl
  have hsz2 : (Try.prog.types[69]).size = 5 := by kernel_rfl
  refine fn_sx mixed tbMs4 [0, 1, 2, 3] Try.func14 (c := bodyOf Try.f14) (by kernel_rfl) ?_
  unfold msC
  refine ifK (fun g1 => ?_) (fun g1 => by rw [numB_lo g1]; exact ⟨_, _, _, rfl, wr_ge rfl⟩)
  refine ifK (fun g2 => by rw [numB_hi g2]; exact ⟨_, _, _, rfl, wr_ge rfl⟩) (fun g2 => ?_)
  rw [numB_of g1 g2, Bool.true_and]
  refine ifK (fun g3 => ?_) (fun g3 => by rw [numB_lo g3]; exact ⟨_, _, _, rfl, wr_ge rfl⟩)
  refine ifK (fun g4 => by rw [numB_hi g4]; exact ⟨_, _, _, rfl, wr_ge rfl⟩) (fun g4 => ?_)
  rw [numB_of g3 g4, if_neg (by decide)]
  refine ifK (fun g5 => by rw [numB_hi g5]; exact ⟨_, _, _, rfl, wr_ge rfl⟩) (fun g5 => ?_)
  rw [numB_len g5, Bool.true_and]
  refine ifK (fun g6 => by rw [numB_hi g6]; exact ⟨_, _, _, rfl, wr_ge rfl⟩) (fun g6 => ?_)
  rw [numB_len g6, Bool.true_and]
  refine ifK (fun g7 => by rw [numB_hi g7]; exact ⟨_, _, _, rfl, wr_ge rfl⟩) (fun g7 => ?_)
  rw [numB_len g7, Bool.true_and]
  refine ifK (fun g8 => by rw [numB_hi g8]; exact ⟨_, _, _, rfl, wr_ge rfl⟩) (fun g8 => ?_)
  rw [numB_len g8, if_neg (by decide)]
  have f1 : ql.length ≤ 65535 := by have := of_decide_eq_true (Bool.not_eq_false' .. ▸ g5 : decide ((ql.length : Int) ≤ 65535) = true); omega
  have f2 : al.length ≤ 65535 := by have := of_decide_eq_true (Bool.not_eq_false' .. ▸ g6 : decide ((al.length : Int) ≤ 65535) = true); omega
  have f3 : nl.length ≤ 65535 := by have := of_decide_eq_true (Bool.not_eq_false' .. ▸ g7 : decide ((nl.length : Int) ≤ 65535) = true); omega
  have f4 : rl.length ≤ 65535 := by have := of_decide_eq_true (Bool.not_eq_false' .. ▸ g8 : decide ((rl.length : Int) ≤ 65535) = true); omega
  refine loop_goX (ckS1 id fl qc qp qz ql ac ap az al nc np nz nl rc rp rz rl) (fun i => ql.length - i) (fun i => i ≤ ql.length ∧ firstE quC ql = firstE quC (ql.drop i)) 0 ⟨Nat.zero_le _, rfl⟩
    (rc_slots [4] rfl rfl rfl (fun l e => by cases e) (by decide) (by decide) rfl rfl (wr_of rfl) ⟨⟨_, rfl, .ptr _ _ _ rfl⟩, ⟨_, rfl, .sl _ _ _ _ _ rfl⟩, ⟨_, rfl, .int _ _⟩, ⟨_, rfl, .int _ _⟩, trivial⟩ ⟨⟨by decide, _, rfl, .sameW (pq)⟩, ⟨by decide, _, rfl, .sameW (pa)⟩, ⟨by decide, _, rfl, .sameW (pn)⟩, ⟨by decide, _, rfl, .sameW (pr)⟩, ⟨by decide, _, rfl, msg_box (m := ⟨id, fl, ⟨0, qc, qp, ql, qz⟩, ⟨1, ac, ap, al, az⟩, ⟨2, nc, np, nl, nz⟩, ⟨3, rc, rp, rl, rz⟩⟩)⟩, trivial⟩ .nil) ?_
  rintro i f ⟨hi, heq⟩
  have hi : i ≤ ql.length := hi
  refine sx_ok tbMs4 [0, 1, 2, 3] 4 _ none mixed _ _ _ ?_
  refine ifK (fun h1 => ?_) (fun h1 => ?_)
  · have h1 : i < ql.length := by have h1 : ((i : Nat) : Int) < (ql.length : Int) := of_decide_eq_true h1; omega
    rw [firstE_drop quC ql i h1] at heq
    obtain ⟨x, hx⟩ : ∃ x, ql[i] = x := ⟨_, rfl⟩
    have gx := RdL.get layQ qp qz ql i h1
    rw [hx] at heq gx
    have hs : shortB x.n = true := hx ▸ hq _ (List.getElem_mem h1)
    refine ifK (fun _ => ?_) (fun h2 => absurd h2 (by simp [inI]; omega))
    refine Exists.intro x.n (Exists.intro x.t (Exists.intro x.c (And.intro (by rw [hsz, Int.toNat_natCast]; exact gx) ?_)))
    refine And.intro hs ?_
    refine ifK (fun h2 => ?_) (fun h2 => ?_)
    · have h2 : (labels (bs x.n)).2 ≠ 0 := by simpa using h2
      have e : quC x = (labels (bs x.n)).2 := by unfold quC; rw [if_pos h2]
      have e1 : firstE quC ql = (labels (bs x.n)).2 := by rw [heq, e, if_pos h2]
      refine And.intro rfl (rc_end (rc_slots [] rfl rfl rfl (fun l e => by cases e) (by decide) (by decide) rfl rfl (wr_of rfl) (d := 7) (d2 := 0) (lv := [(2, .int .i64 ((labels (bs x.n)).2))]) (bs := []) (W := []) (m := 4) (df := []) ⟨⟨_, rfl, .int _ _⟩, trivial⟩ trivial .nil) (fun f => ?_))
      rw [e1, if_pos h2]; exact ⟨_, _, _, rfl, wr_ge rfl⟩
    have h2 : (labels (bs x.n)).2 = 0 := by simpa using h2
    have e0 : quC x = if (numB x.t 65535 && numB x.c 65535) = true then 0 else 5 := by unfold quC; rw [if_neg (by simpa using h2)]
    have bad : (numB x.t 65535 && numB x.c 65535) = false → firstE quC ql = 5 := fun h => by rw [heq, e0, h]; rfl
    have good : (numB x.t 65535 && numB x.c 65535) = true → firstE quC ql = firstE quC (ql.drop (i + 1)) := fun h => by rw [heq, e0, h]; rfl
    refine ifK (fun k1 => ?_) (fun k1 => ?_)
    · refine ifK (fun k2 => ?_) (fun k2 => ?_)
      · have e1 := bad (by rw [numB_hi k2]; rfl)
        refine And.intro rfl (rc_end (rc_slots [] rfl rfl rfl (fun l e => by cases e) (by decide) (by decide) rfl rfl (wr_of rfl) (d := 7) (d2 := 0) (lv := [(2, .int .i64 (5))]) (bs := []) (W := []) (m := 4) (df := []) ⟨⟨_, rfl, .int _ _⟩, trivial⟩ trivial .nil) (fun f => ?_))
        rw [e1, if_pos (by decide)]; exact ⟨_, _, _, rfl, wr_ge rfl⟩
      · refine ifK (fun k3 => ?_) (fun k3 => ?_)
        · refine ifK (fun k4 => ?_) (fun k4 => ?_)
          · have e1 := bad (by rw [numB_hi k4, Bool.and_false])
            refine And.intro rfl (rc_end (rc_slots [] rfl rfl rfl (fun l e => by cases e) (by decide) (by decide) rfl rfl (wr_of rfl) (d := 7) (d2 := 0) (lv := [(2, .int .i64 (5))]) (bs := []) (W := []) (m := 4) (df := []) ⟨⟨_, rfl, .int _ _⟩, trivial⟩ trivial .nil) (fun f => ?_))
            rw [e1, if_pos (by decide)]; exact ⟨_, _, _, rfl, wr_ge rfl⟩
          · exact ⟨i + 1, ⟨h1, good (by rw [numB_of k1 k2, numB_of k3 k4]; rfl)⟩, by show ql.length - (i + 1) < ql.length - i; omega, rc_slots [4] rfl rfl rfl (fun l e => by cases e) (by decide) (by decide) rfl rfl (wr_of rfl) ⟨⟨_, rfl, .ptr _ _ _ rfl⟩, ⟨_, rfl, .sl _ _ _ _ _ rfl⟩, ⟨_, rfl, .int _ _⟩, slot_int rfl (by rw [wrapN (by omega) (by omega)]; omega), trivial⟩ ⟨⟨by decide, _, rfl, .sameW (pq)⟩, ⟨by decide, _, rfl, .sameW (pa)⟩, ⟨by decide, _, rfl, .sameW (pn)⟩, ⟨by decide, _, rfl, .sameW (pr)⟩, ⟨by decide, _, rfl, msg_box (m := ⟨id, fl, ⟨0, qc, qp, ql, qz⟩, ⟨1, ac, ap, al, az⟩, ⟨2, nc, np, nl, nz⟩, ⟨3, rc, rp, rl, rz⟩⟩)⟩, trivial⟩ .nil⟩
        · have e1 := bad (by rw [numB_lo k3, Bool.and_false])
          refine And.intro rfl (rc_end (rc_slots [] rfl rfl rfl (fun l e => by cases e) (by decide) (by decide) rfl rfl (wr_of rfl) (d := 7) (d2 := 0) (lv := [(2, .int .i64 (5))]) (bs := []) (W := []) (m := 4) (df := []) ⟨⟨_, rfl, .int _ _⟩, trivial⟩ trivial .nil) (fun f => ?_))
          rw [e1, if_pos (by decide)]; exact ⟨_, _, _, rfl, wr_ge rfl⟩
    · have e1 := bad (by rw [numB_lo k1]; rfl)
      refine And.intro rfl (rc_end (rc_slots [] rfl rfl rfl (fun l e => by cases e) (by decide) (by decide) rfl rfl (wr_of rfl) (d := 7) (d2 := 0) (lv := [(2, .int .i64 (5))]) (bs := []) (W := []) (m := 4) (df := []) ⟨⟨_, rfl, .int _ _⟩, trivial⟩ trivial .nil) (fun f => ?_))
      rw [e1, if_pos (by decide)]; exact ⟨_, _, _, rfl, wr_ge rfl⟩
  have h1 : ¬ i < ql.length := fun e => absurd (show ((i : Nat) : Int) < (ql.length : Int) by omega) (of_decide_eq_false h1)
  have e1 : firstE quC ql = 0 := by rw [heq, firstE_end _ _ _ (by omega)]
  rw [e1, if_neg (by decide)]
  refine And.intro rfl (rc_end (rc_slots [4] rfl rfl rfl (fun l e => by cases e) (by decide) (by decide) rfl rfl (wr_of rfl) (d := 7) (d2 := 3) (lv := [(1, .pointer (some ⟨4, 0, none⟩))]) (bs := [(0, .win (RdL.cells layQ ⟨0, qc, qp, ql, qz⟩) layQ.k), (1, .win (RdL.cells layR ⟨1, ac, ap, al, az⟩) layR.k), (2, .win (RdL.cells layR ⟨2, nc, np, nl, nz⟩) layR.k), (3, .win (RdL.cells layR ⟨3, rc, rp, rl, rz⟩) layR.k), (4, .cells [.int .i64 id, .int .i64 fl, RdL.sl ⟨0, qc, qp, ql, qz⟩, RdL.sl ⟨1, ac, ap, al, az⟩, RdL.sl ⟨2, nc, np, nl, nz⟩, RdL.sl ⟨3, rc, rp, rl, rz⟩] 25)]) (W := []) (m := 5) (df := []) ⟨⟨_, rfl, .ptr _ _ _ rfl⟩, trivial⟩ ⟨⟨by decide, _, rfl, .sameW (pq)⟩, ⟨by decide, _, rfl, .sameW (pa)⟩, ⟨by decide, _, rfl, .sameW (pn)⟩, ⟨by decide, _, rfl, .sameW (pr)⟩, ⟨by decide, _, rfl, msg_box (m := ⟨id, fl, ⟨0, qc, qp, ql, qz⟩, ⟨1, ac, ap, al, az⟩, ⟨2, nc, np, nl, nz⟩, ⟨3, rc, rp, rl, rz⟩⟩)⟩, trivial⟩ .nil) (fun f => ?_))

  refine And.intro (by kernel_rfl) ?_
  refine LW.round ?_
  refine sx_ok tbMs4 [0, 1, 2, 3] 4 _ none mixed _ _ _ ?_
  refine loop_goX (ckS2 id fl qc qp qz ql ac ap az al nc np nz nl rc rp rz rl 0 1 ap al ac) (fun i => al.length - i) (fun i => i ≤ al.length ∧ firstE recC al = firstE recC (al.drop i)) 0 ⟨Nat.zero_le _, rfl⟩
    (rc_slots [4] rfl rfl rfl (fun l e => by cases e) (by decide) (by decide) rfl rfl (wr_of rfl) ⟨⟨_, rfl, .agg _ _ (.cons _ _ _ _ (.ptr _ _ _ rfl) (.cons _ _ _ _ (.ptr _ _ _ rfl) (.cons _ _ _ _ (.ptr _ _ _ rfl) .nil)))⟩, ⟨_, rfl, .int _ _⟩, ⟨_, rfl, .sl _ _ _ _ _ rfl⟩, ⟨_, rfl, .int _ _⟩, ⟨_, rfl, .int _ _⟩, trivial⟩ ⟨⟨by decide, _, rfl, .sameW (pq)⟩, ⟨by decide, _, rfl, .sameW (pa)⟩, ⟨by decide, _, rfl, .sameW (pn)⟩, ⟨by decide, _, rfl, .sameW (pr)⟩, ⟨by decide, _, rfl, msg_box (m := ⟨id, fl, ⟨0, qc, qp, ql, qz⟩, ⟨1, ac, ap, al, az⟩, ⟨2, nc, np, nl, nz⟩, ⟨3, rc, rp, rl, rz⟩⟩)⟩, trivial⟩ .nil) ?_
  rintro i f ⟨hi, heq⟩
  have hi : i ≤ al.length := hi
  refine sx_ok tbMs4 [0, 1, 2, 3] 4 _ none mixed _ _ _ ?_
  refine ifK (fun h1 => ?_) (fun h1 => ?_)
  · have h1 : i < al.length := by have h1 : ((i : Nat) : Int) < (al.length : Int) := of_decide_eq_true h1; omega
    rw [firstE_drop recC al i h1] at heq
    obtain ⟨x, hx⟩ : ∃ x, al[i] = x := ⟨_, rfl⟩
    have gx := RdL.get layR ap az al i h1
    rw [hx] at heq gx
    have hs : x.ok = true := hx ▸ ha _ (List.getElem_mem h1)
    refine ifK (fun _ => ?_) (fun h2 => absurd h2 (by simp [inI]; omega))
    refine Exists.intro x.n (Exists.intro x.t (Exists.intro x.c (Exists.intro x.ttl (Exists.intro x.d (And.intro (by rw [hsz2, Int.toNat_natCast]; exact gx) ?_)))))
    refine And.intro hs ?_
    refine ifK (fun h2 => ?_) (fun h2 => ?_)
    · have h2 : recC x ≠ 0 := by simpa using h2
      have e1 : firstE recC al = recC x := by rw [heq, if_pos h2]
      refine And.intro rfl (rc_end (rc_slots [] rfl rfl rfl (fun l e => by cases e) (by decide) (by decide) rfl rfl (wr_of rfl) (d := 7) (d2 := 0) (lv := [(2, .int .i64 (recC x))]) (bs := []) (W := []) (m := 4) (df := []) ⟨⟨_, rfl, .int _ _⟩, trivial⟩ trivial .nil) (fun f => ?_))
      rw [e1, if_pos h2]; exact ⟨_, _, _, rfl, wr_ge rfl⟩
    have h2 : recC x = 0 := by simpa using h2
    exact ⟨i + 1, ⟨h1, by rw [heq, if_neg (by simpa using h2)]⟩, by show al.length - (i + 1) < al.length - i; omega, rc_slots [4] rfl rfl rfl (fun l e => by cases e) (by decide) (by decide) rfl rfl (wr_of rfl) ⟨⟨_, rfl, .agg _ _ (.cons _ _ _ _ (.ptr _ _ _ rfl) (.cons _ _ _ _ (.ptr _ _ _ rfl) (.cons _ _ _ _ (.ptr _ _ _ rfl) .nil)))⟩, ⟨_, rfl, .int _ _⟩, ⟨_, rfl, .sl _ _ _ _ _ rfl⟩, ⟨_, rfl, .int _ _⟩, slot_int rfl (by rw [wrapN (by omega) (by omega)]; omega), trivial⟩ ⟨⟨by decide, _, rfl, .sameW (pq)⟩, ⟨by decide, _, rfl, .sameW (pa)⟩, ⟨by decide, _, rfl, .sameW (pn)⟩, ⟨by decide, _, rfl, .sameW (pr)⟩, ⟨by decide, _, rfl, msg_box (m := ⟨id, fl, ⟨0, qc, qp, ql, qz⟩, ⟨1, ac, ap, al, az⟩, ⟨2, nc, np, nl, nz⟩, ⟨3, rc, rp, rl, rz⟩⟩)⟩, trivial⟩ .nil⟩
  have h1 : ¬ i < al.length := fun e => absurd (show ((i : Nat) : Int) < (al.length : Int) by omega) (of_decide_eq_false h1)
  have e1 : firstE recC al = 0 := by rw [heq, firstE_end _ _ _ (by omega)]
  rw [e1, if_neg (by decide)]
  refine And.intro rfl (rc_end (rc_slots [4] rfl rfl rfl (fun l e => by cases e) (by decide) (by decide) rfl rfl (wr_of rfl) (d := 7) (d2 := 3) (lv := [(71, .agg #[.pointer (some ⟨4, 3, none⟩), .pointer (some ⟨4, 4, none⟩), .pointer (some ⟨4, 5, none⟩)]), (72, .int .i64 0)]) (bs := [(0, .win (RdL.cells layQ ⟨0, qc, qp, ql, qz⟩) layQ.k), (1, .win (RdL.cells layR ⟨1, ac, ap, al, az⟩) layR.k), (2, .win (RdL.cells layR ⟨2, nc, np, nl, nz⟩) layR.k), (3, .win (RdL.cells layR ⟨3, rc, rp, rl, rz⟩) layR.k), (4, .cells [.int .i64 id, .int .i64 fl, RdL.sl ⟨0, qc, qp, ql, qz⟩, RdL.sl ⟨1, ac, ap, al, az⟩, RdL.sl ⟨2, nc, np, nl, nz⟩, RdL.sl ⟨3, rc, rp, rl, rz⟩] 25)]) (W := []) (m := 5) (df := []) ⟨⟨_, rfl, .agg _ _ (.cons _ _ _ _ (.ptr _ _ _ rfl) (.cons _ _ _ _ (.ptr _ _ _ rfl) (.cons _ _ _ _ (.ptr _ _ _ rfl) .nil)))⟩, ⟨_, rfl, .int _ _⟩, trivial⟩ ⟨⟨by decide, _, rfl, .sameW (pq)⟩, ⟨by decide, _, rfl, .sameW (pa)⟩, ⟨by decide, _, rfl, .sameW (pn)⟩, ⟨by decide, _, rfl, .sameW (pr)⟩, ⟨by decide, _, rfl, msg_box (m := ⟨id, fl, ⟨0, qc, qp, ql, qz⟩, ⟨1, ac, ap, al, az⟩, ⟨2, nc, np, nl, nz⟩, ⟨3, rc, rp, rl, rz⟩⟩)⟩, trivial⟩ .nil) (fun f => ?_))
  refine LW.round ?_
  refine sx_ok tbMs4 [0, 1, 2, 3] 4 _ none mixed _ _ _ ?_
  refine loop_goX (ckS2 id fl qc qp qz ql ac ap az al nc np nz nl rc rp rz rl 1 2 np nl nc) (fun i => nl.length - i) (fun i => i ≤ nl.length ∧ firstE recC nl = firstE recC (nl.drop i)) 0 ⟨Nat.zero_le _, rfl⟩
    (rc_slots [4] rfl rfl rfl (fun l e => by cases e) (by decide) (by decide) rfl rfl (wr_of rfl) ⟨⟨_, rfl, .agg _ _ (.cons _ _ _ _ (.ptr _ _ _ rfl) (.cons _ _ _ _ (.ptr _ _ _ rfl) (.cons _ _ _ _ (.ptr _ _ _ rfl) .nil)))⟩, ⟨_, rfl, .int _ _⟩, ⟨_, rfl, .sl _ _ _ _ _ rfl⟩, ⟨_, rfl, .int _ _⟩, ⟨_, rfl, .int _ _⟩, trivial⟩ ⟨⟨by decide, _, rfl, .sameW (pq)⟩, ⟨by decide, _, rfl, .sameW (pa)⟩, ⟨by decide, _, rfl, .sameW (pn)⟩, ⟨by decide, _, rfl, .sameW (pr)⟩, ⟨by decide, _, rfl, msg_box (m := ⟨id, fl, ⟨0, qc, qp, ql, qz⟩, ⟨1, ac, ap, al, az⟩, ⟨2, nc, np, nl, nz⟩, ⟨3, rc, rp, rl, rz⟩⟩)⟩, trivial⟩ .nil) ?_
  rintro i f ⟨hi, heq⟩
  have hi : i ≤ nl.length := hi
  refine sx_ok tbMs4 [0, 1, 2, 3] 4 _ none mixed _ _ _ ?_
  refine ifK (fun h1 => ?_) (fun h1 => ?_)
  · have h1 : i < nl.length := by have h1 : ((i : Nat) : Int) < (nl.length : Int) := of_decide_eq_true h1; omega
    rw [firstE_drop recC nl i h1] at heq
    obtain ⟨x, hx⟩ : ∃ x, nl[i] = x := ⟨_, rfl⟩
    have gx := RdL.get layR np nz nl i h1
    rw [hx] at heq gx
    have hs : x.ok = true := hx ▸ hn _ (List.getElem_mem h1)
    refine ifK (fun _ => ?_) (fun h2 => absurd h2 (by simp [inI]; omega))
    refine Exists.intro x.n (Exists.intro x.t (Exists.intro x.c (Exists.intro x.ttl (Exists.intro x.d (And.intro (by rw [hsz2, Int.toNat_natCast]; exact gx) ?_)))))
    refine And.intro hs ?_
    refine ifK (fun h2 => ?_) (fun h2 => ?_)
    · have h2 : recC x ≠ 0 := by simpa using h2
      have e1 : firstE recC nl = recC x := by rw [heq, if_pos h2]
      refine And.intro rfl (rc_end (rc_slots [] rfl rfl rfl (fun l e => by cases e) (by decide) (by decide) rfl rfl (wr_of rfl) (d := 7) (d2 := 0) (lv := [(2, .int .i64 (recC x))]) (bs := []) (W := []) (m := 4) (df := []) ⟨⟨_, rfl, .int _ _⟩, trivial⟩ trivial .nil) (fun f => ?_))
      rw [e1, if_pos h2]; exact ⟨_, _, _, rfl, wr_ge rfl⟩
    have h2 : recC x = 0 := by simpa using h2
    exact ⟨i + 1, ⟨h1, by rw [heq, if_neg (by simpa using h2)]⟩, by show nl.length - (i + 1) < nl.length - i; omega, rc_slots [4] rfl rfl rfl (fun l e => by cases e) (by decide) (by decide) rfl rfl (wr_of rfl) ⟨⟨_, rfl, .agg _ _ (.cons _ _ _ _ (.ptr _ _ _ rfl) (.cons _ _ _ _ (.ptr _ _ _ rfl) (.cons _ _ _ _ (.ptr _ _ _ rfl) .nil)))⟩, ⟨_, rfl, .int _ _⟩, ⟨_, rfl, .sl _ _ _ _ _ rfl⟩, ⟨_, rfl, .int _ _⟩, slot_int rfl (by rw [wrapN (by omega) (by omega)]; omega), trivial⟩ ⟨⟨by decide, _, rfl, .sameW (pq)⟩, ⟨by decide, _, rfl, .sameW (pa)⟩, ⟨by decide, _, rfl, .sameW (pn)⟩, ⟨by decide, _, rfl, .sameW (pr)⟩, ⟨by decide, _, rfl, msg_box (m := ⟨id, fl, ⟨0, qc, qp, ql, qz⟩, ⟨1, ac, ap, al, az⟩, ⟨2, nc, np, nl, nz⟩, ⟨3, rc, rp, rl, rz⟩⟩)⟩, trivial⟩ .nil⟩
  have h1 : ¬ i < nl.length := fun e => absurd (show ((i : Nat) : Int) < (nl.length : Int) by omega) (of_decide_eq_false h1)
  have e1 : firstE recC nl = 0 := by rw [heq, firstE_end _ _ _ (by omega)]
  rw [e1, if_neg (by decide)]
  refine And.intro rfl (rc_end (rc_slots [4] rfl rfl rfl (fun l e => by cases e) (by decide) (by decide) rfl rfl (wr_of rfl) (d := 7) (d2 := 3) (lv := [(71, .agg #[.pointer (some ⟨4, 3, none⟩), .pointer (some ⟨4, 4, none⟩), .pointer (some ⟨4, 5, none⟩)]), (72, .int .i64 1)]) (bs := [(0, .win (RdL.cells layQ ⟨0, qc, qp, ql, qz⟩) layQ.k), (1, .win (RdL.cells layR ⟨1, ac, ap, al, az⟩) layR.k), (2, .win (RdL.cells layR ⟨2, nc, np, nl, nz⟩) layR.k), (3, .win (RdL.cells layR ⟨3, rc, rp, rl, rz⟩) layR.k), (4, .cells [.int .i64 id, .int .i64 fl, RdL.sl ⟨0, qc, qp, ql, qz⟩, RdL.sl ⟨1, ac, ap, al, az⟩, RdL.sl ⟨2, nc, np, nl, nz⟩, RdL.sl ⟨3, rc, rp, rl, rz⟩] 25)]) (W := []) (m := 5) (df := []) ⟨⟨_, rfl, .agg _ _ (.cons _ _ _ _ (.ptr _ _ _ rfl) (.cons _ _ _ _ (.ptr _ _ _ rfl) (.cons _ _ _ _ (.ptr _ _ _ rfl) .nil)))⟩, ⟨_, rfl, .int _ _⟩, trivial⟩ ⟨⟨by decide, _, rfl, .sameW (pq)⟩, ⟨by decide, _, rfl, .sameW (pa)⟩, ⟨by decide, _, rfl, .sameW (pn)⟩, ⟨by decide, _, rfl, .sameW (pr)⟩, ⟨by decide, _, rfl, msg_box (m := ⟨id, fl, ⟨0, qc, qp, ql, qz⟩, ⟨1, ac, ap, al, az⟩, ⟨2, nc, np, nl, nz⟩, ⟨3, rc, rp, rl, rz⟩⟩)⟩, trivial⟩ .nil) (fun f => ?_))
  refine LW.round ?_
  refine sx_ok tbMs4 [0, 1, 2, 3] 4 _ none mixed _ _ _ ?_
  refine loop_goX (ckS2 id fl qc qp qz ql ac ap az al nc np nz nl rc rp rz rl 2 3 rp rl rc) (fun i => rl.length - i) (fun i => i ≤ rl.length ∧ firstE recC rl = firstE recC (rl.drop i)) 0 ⟨Nat.zero_le _, rfl⟩
    (rc_slots [4] rfl rfl rfl (fun l e => by cases e) (by decide) (by decide) rfl rfl (wr_of rfl) ⟨⟨_, rfl, .agg _ _ (.cons _ _ _ _ (.ptr _ _ _ rfl) (.cons _ _ _ _ (.ptr _ _ _ rfl) (.cons _ _ _ _ (.ptr _ _ _ rfl) .nil)))⟩, ⟨_, rfl, .int _ _⟩, ⟨_, rfl, .sl _ _ _ _ _ rfl⟩, ⟨_, rfl, .int _ _⟩, ⟨_, rfl, .int _ _⟩, trivial⟩ ⟨⟨by decide, _, rfl, .sameW (pq)⟩, ⟨by decide, _, rfl, .sameW (pa)⟩, ⟨by decide, _, rfl, .sameW (pn)⟩, ⟨by decide, _, rfl, .sameW (pr)⟩, ⟨by decide, _, rfl, msg_box (m := ⟨id, fl, ⟨0, qc, qp, ql, qz⟩, ⟨1, ac, ap, al, az⟩, ⟨2, nc, np, nl, nz⟩, ⟨3, rc, rp, rl, rz⟩⟩)⟩, trivial⟩ .nil) ?_
  rintro i f ⟨hi, heq⟩
  have hi : i ≤ rl.length := hi
  refine sx_ok tbMs4 [0, 1, 2, 3] 4 _ none mixed _ _ _ ?_
  refine ifK (fun h1 => ?_) (fun h1 => ?_)
  · have h1 : i < rl.length := by have h1 : ((i : Nat) : Int) < (rl.length : Int) := of_decide_eq_true h1; omega
    rw [firstE_drop recC rl i h1] at heq
    obtain ⟨x, hx⟩ : ∃ x, rl[i] = x := ⟨_, rfl⟩
    have gx := RdL.get layR rp rz rl i h1
    rw [hx] at heq gx
    have hs : x.ok = true := hx ▸ hr _ (List.getElem_mem h1)
    refine ifK (fun _ => ?_) (fun h2 => absurd h2 (by simp [inI]; omega))
    refine Exists.intro x.n (Exists.intro x.t (Exists.intro x.c (Exists.intro x.ttl (Exists.intro x.d (And.intro (by rw [hsz2, Int.toNat_natCast]; exact gx) ?_)))))
    refine And.intro hs ?_
    refine ifK (fun h2 => ?_) (fun h2 => ?_)
    · have h2 : recC x ≠ 0 := by simpa using h2
      have e1 : firstE recC rl = recC x := by rw [heq, if_pos h2]
      refine And.intro rfl (rc_end (rc_slots [] rfl rfl rfl (fun l e => by cases e) (by decide) (by decide) rfl rfl (wr_of rfl) (d := 7) (d2 := 0) (lv := [(2, .int .i64 (recC x))]) (bs := []) (W := []) (m := 4) (df := []) ⟨⟨_, rfl, .int _ _⟩, trivial⟩ trivial .nil) (fun f => ?_))
      rw [e1]; exact ⟨_, _, _, rfl, wr_ge rfl⟩
    have h2 : recC x = 0 := by simpa using h2
    exact ⟨i + 1, ⟨h1, by rw [heq, if_neg (by simpa using h2)]⟩, by show rl.length - (i + 1) < rl.length - i; omega, rc_slots [4] rfl rfl rfl (fun l e => by cases e) (by decide) (by decide) rfl rfl (wr_of rfl) ⟨⟨_, rfl, .agg _ _ (.cons _ _ _ _ (.ptr _ _ _ rfl) (.cons _ _ _ _ (.ptr _ _ _ rfl) (.cons _ _ _ _ (.ptr _ _ _ rfl) .nil)))⟩, ⟨_, rfl, .int _ _⟩, ⟨_, rfl, .sl _ _ _ _ _ rfl⟩, ⟨_, rfl, .int _ _⟩, slot_int rfl (by rw [wrapN (by omega) (by omega)]; omega), trivial⟩ ⟨⟨by decide, _, rfl, .sameW (pq)⟩, ⟨by decide, _, rfl, .sameW (pa)⟩, ⟨by decide, _, rfl, .sameW (pn)⟩, ⟨by decide, _, rfl, .sameW (pr)⟩, ⟨by decide, _, rfl, msg_box (m := ⟨id, fl, ⟨0, qc, qp, ql, qz⟩, ⟨1, ac, ap, al, az⟩, ⟨2, nc, np, nl, nz⟩, ⟨3, rc, rp, rl, rz⟩⟩)⟩, trivial⟩ .nil⟩
  have h1 : ¬ i < rl.length := fun e => absurd (show ((i : Nat) : Int) < (rl.length : Int) by omega) (of_decide_eq_false h1)
  have e1 : firstE recC rl = 0 := by rw [heq, firstE_end _ _ _ (by omega)]
  rw [e1]
  refine And.intro rfl (rc_end (rc_slots [4] rfl rfl rfl (fun l e => by cases e) (by decide) (by decide) rfl rfl (wr_of rfl) (d := 7) (d2 := 3) (lv := [(71, .agg #[.pointer (some ⟨4, 3, none⟩), .pointer (some ⟨4, 4, none⟩), .pointer (some ⟨4, 5, none⟩)]), (72, .int .i64 2)]) (bs := [(0, .win (RdL.cells layQ ⟨0, qc, qp, ql, qz⟩) layQ.k), (1, .win (RdL.cells layR ⟨1, ac, ap, al, az⟩) layR.k), (2, .win (RdL.cells layR ⟨2, nc, np, nl, nz⟩) layR.k), (3, .win (RdL.cells layR ⟨3, rc, rp, rl, rz⟩) layR.k), (4, .cells [.int .i64 id, .int .i64 fl, RdL.sl ⟨0, qc, qp, ql, qz⟩, RdL.sl ⟨1, ac, ap, al, az⟩, RdL.sl ⟨2, nc, np, nl, nz⟩, RdL.sl ⟨3, rc, rp, rl, rz⟩] 25)]) (W := []) (m := 5) (df := []) ⟨⟨_, rfl, .agg _ _ (.cons _ _ _ _ (.ptr _ _ _ rfl) (.cons _ _ _ _ (.ptr _ _ _ rfl) (.cons _ _ _ _ (.ptr _ _ _ rfl) .nil)))⟩, ⟨_, rfl, .int _ _⟩, trivial⟩ ⟨⟨by decide, _, rfl, .sameW (pq)⟩, ⟨by decide, _, rfl, .sameW (pa)⟩, ⟨by decide, _, rfl, .sameW (pn)⟩, ⟨by decide, _, rfl, .sameW (pr)⟩, ⟨by decide, _, rfl, msg_box (m := ⟨id, fl, ⟨0, qc, qp, ql, qz⟩, ⟨1, ac, ap, al, az⟩, ⟨2, nc, np, nl, nz⟩, ⟨3, rc, rp, rl, rz⟩⟩)⟩, trivial⟩ .nil) (fun f => ?_))
  refine LW.round ?_
  refine sx_ok tbMs4 [0, 1, 2, 3] 4 _ none mixed _ _ _ ?_
  exact ⟨_, _, _, rfl, wr_ge rfl⟩
end Go.Proofs.Ytcggcoijhdagnaa
/- DERIVED. Messages of which lists may be nil; the contract of Check. -/
namespace Go.Proofs.Ytcggcoijhdagnaa
open Go Go.RowKit
/-- A list that lies somewhere, or is nil. -/
inductive LsA (α : Type) where
  | at (r : RdL α)
  | nl
def LsA.v {α : Type} : LsA α → Value
  | .at r => r.sl
  | .nl => .slice none 0 0
def LsA.l {α : Type} : LsA α → List α
  | .at r => r.l
  | .nl => []
def LsA.lies {α : Type} (L : Lay α) (H : Tr AObj) : LsA α → Prop
  | .at r => r.at L H
  | .nl => ∃ j C, seesB H j L.t L.k C
theorem LsA.uniq {α : Type} {L : Lay α} {x y : LsA α} {H : Tr AObj} (h : x.v = y.v) (hx : x.lies L H) (hy : y.lies L H) : x = y := by
  cases x with
  | «at» r => cases y with
    | «at» s => rw [RdL.uniq h hx hy]
    | nl => cases h
  | nl => cases y with
    | «at» s => cases h
    | nl => rfl
theorem as_ro0 {P : Program} {σ : Nat → Nat → Prop} {t : TypeId} {z : Nat} {o : AObj} {C : List Value} (h : o.as t z = some C) (hz : (P.info? t).map (·.size) = some z) : RO P σ o (.win [] z) := by
  cases o with
  | cells c e =>
    have h : (bif Nat.beq e t then some c else none) = some C := h
    cases he : Nat.beq e t with
    | false => rw [he] at h; cases h
    | true => cases Nat.eq_of_beq_eq_true he; exact RO.view [] c [] _ z .nil hz
  | win c z' =>
    have h : (bif Nat.beq z' z then some c else none) = some C := h
    cases he : Nat.beq z' z with
    | false => rw [he] at h; cases h
    | true => cases Nat.eq_of_beq_eq_true he; exact RO.win [] c [] _ .nil
  | _ => cases h
/-- .. as a function sees it that it is handed to. -/
theorem LsA.own {α : Type} {L : Lay α} {x : LsA α} {H : Tr AObj} (hx : x.lies L H) (hz : (Try.prog.info? L.t).map (·.size) = some L.k) (k : Nat) :
    ∃ (j : Nat) (r : RdL α), r.b = k ∧ r.l = x.l ∧ plainL r.pre = true ∧ plainL r.post = true ∧ ∀ A : List Nat, A[k]? = some j → NV A H x.v r.sl ∧ ∃ o, H.get j = some o ∧ RO Try.prog (caR A) o (.win (r.cells L) L.k) := by
  cases x with
  | «at» r =>
    have hx : r.at L H := hx
    refine ⟨r.b, { r with b := k }, rfl, rfl, hx.2.1, hx.2.2, fun A hA => ⟨.rv _ _ (.sl _ _ _ _ _ hA), ?_⟩⟩
    exact hx.1.ro (RdL.plain hx.2.1 hx.2.2) hz
  | nl =>
    obtain ⟨j, C, h⟩ := hx
    obtain ⟨o, h1, h2⟩ := Option.bind_eq_some_iff.1 h
    exact ⟨j, ⟨k, 0, [], [], []⟩, rfl, rfl, rfl, rfl, fun A hA => ⟨.nl _ _ _ hA (by rw [h1]; simp), o, h1, as_ro0 h2 hz⟩⟩
/-- A message, its lists lying somewhere. -/
structure MsX where
  id : Int
  fl : Int
  q : LsA QuX
  an : LsA RcX
  ns : LsA RcX
  ar : LsA RcX
/-- A message. -/
structure MsP where
  id : Int
  fl : Int
  q : List QuX
  an : List RcX
  ns : List RcX
  ar : List RcX
def MsX.p (m : MsX) : MsP := ⟨m.id, m.fl, m.q.l, m.an.l, m.ns.l, m.ar.l⟩
def MsL.p (m : MsL) : MsP := ⟨m.id, m.fl, m.q.l, m.an.l, m.ns.l, m.ar.l⟩
def MsX.v (m : MsX) : Value := .agg #[.int .i64 m.id, .int .i64 m.fl, m.q.v, m.an.v, m.ns.v, m.ar.v]
def MsX.at (m : MsX) (H : Tr AObj) : Prop := m.q.lies layQ H ∧ m.an.lies layR H ∧ m.ns.lies layR H ∧ m.ar.lies layR H
theorem MsX.uniq {m m' : MsX} {H : Tr AObj} (h : m.v = m'.v) (h1 : m.at H) (h2 : m'.at H) : m = m' := by
  obtain ⟨id, fl, q, an, ns, ar⟩ := m
  obtain ⟨id', fl', q', an', ns', ar'⟩ := m'
  simp only [MsX.v, Value.agg.injEq, Array.mk.injEq, List.cons.injEq, Value.int.injEq, true_and, and_true] at h
  obtain ⟨rfl, rfl, a1, a2, a3, a4⟩ := h
  obtain ⟨b1, b2, b3, b4⟩ := h1
  obtain ⟨c1, c2, c3, c4⟩ := h2
  rw [LsA.uniq a1 b1 c1, LsA.uniq a2 b2 c2, LsA.uniq a3 b3 c3, LsA.uniq a4 b4 c4]
theorem MsL.eqp {m : MsL} {x : MsX} (h0 : m.id = x.id) (h1 : m.fl = x.fl) (h2 : m.q.l = x.q.l) (h3 : m.an.l = x.an.l) (h4 : m.ns.l = x.ns.l) (h5 : m.ar.l = x.ar.l) : m.p = x.p := by
  unfold MsL.p MsX.p; rw [h0, h1, h2, h3, h4, h5]
/-- A function that reads a message, of which lists may be nil. -/
noncomputable def CtR.msx (f : FuncId) (Y : Type) (args : Y → List Value) (out : MsP → Y → Value) (pre : MsP → Y → Prop) (hp : ∀ y, plainL (args y) = true) (hv : ∀ x y, plainV 8 (out x y) = true) (inj : ∀ y z, args y = args z → y = z)
    (ok : ∀ (m : MsL) (y : Y), m.q.b = 0 → m.an.b = 1 → m.ns.b = 2 → m.ar.b = 3 → m.at m.heap → pre m.p y → ∃ H k wr, FnS Try.prog 0 f (m.v :: args y) m.heap 4 (.ret (out m.p y) H k wr) ∧ ∀ i ∈ wr, 4 ≤ i) : Ct Try.prog 0 :=
  CtR.ct { f, X := MsX × Y, pre := fun x a H _ => a = x.1.v :: args x.2 ∧ x.1.at H ∧ pre x.1.p x.2, out := fun x H n => .ret (out x.1.p x.2) H n [],
           ok := fun ⟨m, y⟩ as0 H k ⟨h1, h2, h3⟩ => by
             subst h1
             obtain ⟨c1, c2, c3, c4⟩ := h2
             obtain ⟨j1, r1, e1, l1, p1, q1, k1⟩ := LsA.own (x := m.q) c1 layQ_size 0
             obtain ⟨j2, r2, e2, l2, p2, q2, k2⟩ := LsA.own (x := m.an) c2 layR_size 1
             obtain ⟨j3, r3, e3, l3, p3, q3, k3⟩ := LsA.own (x := m.ns) c3 layR_size 2
             obtain ⟨j4, r4, e4, l4, p4, q4, k4⟩ := LsA.own (x := m.ar) c4 layR_size 3
             have hM : ∃ M : MsL, M = ⟨m.id, m.fl, r1, r2, r3, r4⟩ := ⟨_, rfl⟩
             obtain ⟨M, hM⟩ := hM
             have ep : M.p = m.p := by subst hM; exact MsL.eqp rfl rfl l1 l2 l3 l4
             have hat : M.at M.heap := by
               subst hM
               exact ⟨⟨by rw [show MsL.q _ = r1 from rfl, e1]; exact seesB_of (by kernel_rfl), p1, q1⟩, ⟨by rw [show MsL.an _ = r2 from rfl, e2]; exact seesB_of (by kernel_rfl), p2, q2⟩, ⟨by rw [show MsL.ns _ = r3 from rfl, e3]; exact seesB_of (by kernel_rfl), p3, q3⟩, ⟨by rw [show MsL.ar _ = r4 from rfl, e4]; exact seesB_of (by kernel_rfl), p4, q4⟩⟩
             obtain ⟨H', m', wr, hF, hw⟩ := ok M y (by rw [hM]; exact e1) (by rw [hM]; exact e2) (by rw [hM]; exact e3) (by rw [hM]; exact e4) hat (ep ▸ h3)
             rw [ep] at hF
             show CallOK Try.prog 0 f _ H k (.ret (out m.p y) H k [])
             subst hM
             obtain ⟨n1, o1, g1, s1⟩ := k1 [j1, j2, j3, j4] rfl
             obtain ⟨n2, o2, g2, s2⟩ := k2 [j1, j2, j3, j4] rfl
             obtain ⟨n3, o3, g3, s3⟩ := k3 [j1, j2, j3, j4] rfl
             obtain ⟨n4, o4, g4, s4⟩ := k4 [j1, j2, j3, j4] rfl
             have argsN : ∀ l, plainL l = true → NL [j1, j2, j3, j4] H l l := fun l hl => by
               induction l with
               | nil => exact .nil
               | cons x l ih =>
                 have hl := (Bool.and_eq_true _ _).mp hl
                 exact .cons _ _ _ _ (.rv _ _ (plain_rv 8 hl.1)) (ih hl.2)
             exact callOK_readsN [j1, j2, j3, j4] hF hw (dup_win (fun x hx => by simp only [List.mem_cons, List.not_mem_nil, or_false] at hx; rcases hx with rfl | rfl | rfl | rfl <;> trivial))
               (ArgOK.nl (.cons _ _ _ _ (.agg _ _ (.cons _ _ _ _ (.rv _ _ (.int _ _)) (.cons _ _ _ _ (.rv _ _ (.int _ _)) (.cons _ _ _ _ n1 (.cons _ _ _ _ n2 (.cons _ _ _ _ n3 (.cons _ _ _ _ n4 .nil))))))) (argsN _ (hp y))))
               (callB_of ⟨⟨_, o1, rfl, g1, s1⟩, ⟨_, o2, rfl, g2, s2⟩, ⟨_, o3, rfl, g3, s3⟩, ⟨_, o4, rfl, g4, s4⟩, trivial⟩) (hv _ _),
           uniq := fun ⟨x, y⟩ ⟨x', y'⟩ a H m ⟨h1, h2, _⟩ ⟨k1, k2, _⟩ => by
             rw [h1] at k1
             simp only [List.cons.injEq] at k1
             rw [MsX.uniq k1.1 h2 k2, inj _ _ k1.2] }
def MsP.fine (p : MsP) : Prop := (∀ x ∈ p.q, shortB x.n = true) ∧ (∀ x ∈ p.an, x.ok = true) ∧ (∀ x ∈ p.ns, x.ok = true) ∧ ∀ x ∈ p.ar, x.ok = true
noncomputable def ct_msCheck : Ct Try.prog 0 := CtR.msx 14 Unit (fun _ => []) (fun p _ => .int .i64 (msC p.id p.fl p.q p.an p.ns p.ar)) (fun p _ => p.fine) (fun _ => rfl) (fun _ _ => rfl) (fun _ _ _ => rfl)
  (fun m _ h0 h1 h2 h3 hat hf => by
    obtain ⟨id, fl, ⟨q0, qc, qp, ql, qz⟩, ⟨a0, ac, ap, al, az⟩, ⟨n0, nc, np, nl, nz⟩, ⟨r0, rc, rp, rl, rz⟩⟩ := m
    cases h0; cases h1; cases h2; cases h3
    obtain ⟨⟨_, hq1, hq2⟩, ⟨_, ha1, ha2⟩, ⟨_, hn1, hn2⟩, ⟨_, hr1, hr2⟩⟩ := hat
    obtain ⟨f1, f2, f3, f4⟩ := hf
    obtain ⟨r, hF, H, k, wr, rfl, hw⟩ := msCheck_fn id fl qc qp qz ql ac ap az al nc np nz nl rc rp rz rl hq1 hq2 ha1 ha2 hn1 hn2 hr1 hr2 f1 f2 f3 f4
    exact ⟨H, k, wr, hF, hw⟩)
end Go.Proofs.Ytcggcoijhdagnaa
/- DERIVED. Flags of a bare answer: the plain law. -/
namespace Go.Proofs.Ytcggcoijhdagnaa
open Go Go.RowKit
theorem and16 (n a : Nat) : n &&& (16 * a) = 16 * ((n / 16) &&& a) := by
  refine Nat.eq_of_testBit_eq fun i => ?_
  have e : ∀ x, Nat.testBit (16 * x) i = (decide (i ≥ 4) && Nat.testBit x (i - 4)) := fun x => Nat.testBit_two_pow_mul (i := 4)
  rw [Nat.testBit_and, e, e, Nat.testBit_and]
  have e2 : Nat.testBit (n / 16) (i - 4) = Nat.testBit n (4 + (i - 4)) := by rw [show n / 16 = n / 2 ^ 4 from rfl, Nat.testBit_div_two_pow, Nat.add_comm]
  by_cases h : i ≥ 4
  · rw [e2, show 4 + (i - 4) = i by omega]; simp [h]
  · simp [h]
theorem or16' (a b : Nat) : (16 * a) ||| (16 * b) = 16 * (a ||| b) := by
  refine Nat.eq_of_testBit_eq fun i => ?_
  have e : ∀ x, Nat.testBit (16 * x) i = (decide (i ≥ 4) && Nat.testBit x (i - 4)) := fun x => Nat.testBit_two_pow_mul (i := 4)
  rw [Nat.testBit_or, e, e, e, Nat.testBit_or]
  by_cases h : i ≥ 4 <;> simp [h]
def zF (q : Nat) : Nat := ((q &&& 1937) ||| 2048) ||| 8
def okF (q : Nat) : Bool := Nat.blt (zF q) 4096 && (Nat.beq (zF q / 128 % 16) (q / 128 % 16) && (Nat.blt 0 (zF q &&& 2048) && (Nat.beq (zF q &&& 32) 0 && (Nat.beq (zF q &&& 16) (q &&& 16) && Nat.beq (zF (zF q)) (zF q)))))
def allB (p : Nat → Bool) : Nat → Nat → Bool
  | 0, k => p k
  | d + 1, k => allB p d (2 * k) && allB p d (2 * k + 1)
theorem allB_all {p : Nat → Bool} : ∀ (d k : Nat), allB p d k = true → ∀ i, i < 2 ^ d → p (2 ^ d * k + i) = true
  | 0, k, h, i, hi => by
    have : i = 0 := by simpa using hi
    subst this
    simpa [allB] using h
  | d + 1, k, h, i, hi => by
    simp only [allB, Bool.and_eq_true] at h
    rw [Nat.pow_succ] at hi ⊢
    by_cases hlt : i < 2 ^ d
    · have := allB_all d _ h.1 i hlt
      rwa [show 2 ^ d * 2 * k + i = 2 ^ d * (2 * k) + i by rw [Nat.mul_assoc]]
    · have := allB_all d _ h.2 (i - 2 ^ d) (by omega)
      rwa [show 2 ^ d * (2 * k + 1) + (i - 2 ^ d) = 2 ^ d * 2 * k + i by rw [Nat.mul_add, Nat.mul_one, Nat.mul_assoc]; omega] at this
theorem okF_all : allB okF 12 0 = true := by kernel_rfl
theorem okF_at {q : Nat} (h : q < 4096) : zF q < 4096 ∧ zF q / 128 % 16 = q / 128 % 16 ∧ 0 < zF q &&& 2048 ∧ zF q &&& 32 = 0 ∧ zF q &&& 16 = q &&& 16 ∧ zF (zF q) = zF q := by
  have := allB_all 12 0 okF_all q h
  rw [Nat.mul_zero, Nat.zero_add] at this
  unfold okF at this
  simp only [Bool.and_eq_true] at this
  obtain ⟨h1, h2, h3, h4, h5, h6⟩ := this
  exact ⟨Nat.le_of_ble_eq_true h1, Nat.eq_of_beq_eq_true h2, Nat.le_of_ble_eq_true h3, Nat.eq_of_beq_eq_true h4, Nat.eq_of_beq_eq_true h5, Nat.eq_of_beq_eq_true h6⟩
theorem bits_and {a b : Nat} (ha : a < 65536) (hb : b < 65536) : bitsI .and .i64 (a : Int) (b : Int) = ((a &&& b : Nat) : Int) := by
  have h : bitsI .and .i64 (a : Int) (b : Int) = IntKind.i64.wrap (b64 (a : Int) &&& b64 (b : Int)).toNat := rfl
  rw [h, BitVec.toNat_and, b64_nat (by omega), b64_nat (by omega)]
  have : a &&& b ≤ a := Nat.and_le_left
  exact wrap_i64 (by omega) (by omega)
theorem bits_or {a b : Nat} (ha : a < 65536) (hb : b < 65536) : bitsI .or .i64 (a : Int) (b : Int) = ((a ||| b : Nat) : Int) := by
  have h : bitsI .or .i64 (a : Int) (b : Int) = IntKind.i64.wrap (b64 (a : Int) ||| b64 (b : Int)).toNat := rfl
  rw [h, BitVec.toNat_or, b64_nat (by omega), b64_nat (by omega)]
  have : a ||| b < 2 ^ 16 := Nat.or_lt_two_pow (by omega) (by omega)
  exact wrap_i64 (by omega) (by omega)
/-- The flags of a bare answer. -/
def repF (fl y : Int) : Int := withI (bitsI .or .i64 (bitsI .or .i64 (bitsI .and .i64 fl 30992) 32768) 128) y
theorem repF_eq {n : Nat} (h : n < 65536) (y : Int) : repF (n : Int) y = ((16 * zF (n / 16) + low4 y : Nat) : Int) := by
  have hq : n / 16 < 4096 := by omega
  have hz := (okF_at hq).1
  have e1 : bitsI .and .i64 (n : Int) 30992 = ((16 * ((n / 16) &&& 1937) : Nat) : Int) := by
    have := bits_and (a := n) (b := 30992) h (by omega)
    rw [show (30992 : Nat) = 16 * 1937 from rfl, and16] at this
    exact this
  have l1 : (n / 16) &&& 1937 ≤ 1937 := Nat.and_le_right
  have e2 : bitsI .or .i64 ((16 * ((n / 16) &&& 1937) : Nat) : Int) 32768 = ((16 * (((n / 16) &&& 1937) ||| 2048) : Nat) : Int) := by
    have := bits_or (a := 16 * ((n / 16) &&& 1937)) (b := 32768) (by omega) (by omega)
    rw [show (32768 : Nat) = 16 * 2048 from rfl, or16'] at this
    exact this
  have l2 : ((n / 16) &&& 1937) ||| 2048 < 2 ^ 12 := Nat.or_lt_two_pow (by omega) (by omega)
  have e3 : bitsI .or .i64 ((16 * (((n / 16) &&& 1937) ||| 2048) : Nat) : Int) 128 = ((16 * zF (n / 16) : Nat) : Int) := by
    have := bits_or (a := 16 * (((n / 16) &&& 1937) ||| 2048)) (b := 128) (by omega) (by omega)
    rw [show (128 : Nat) = 16 * 8 from rfl, or16'] at this
    exact this
  unfold repF
  rw [e1, e2, e3, withI_eq (by omega)]
  congr 2
  omega
/-- What the law asks of a bare answer's flags. -/
theorem repF_law {fl : Int} (h0 : 0 ≤ fl) (h1 : fl ≤ 65535) (y : Int) : (0 ≤ repF fl y ∧ repF fl y ≤ 65535) ∧ opI (repF fl y) = opI fl ∧ codeI (repF fl y) = bitsI .and .i64 y 15 ∧ bitsI .and .i64 (repF fl y) 32768 ≠ 0 ∧ bitsI .and .i64 (repF fl y) 512 = 0 ∧
    bitsI .and .i64 (repF fl y) 256 = bitsI .and .i64 fl 256 ∧ repF (repF fl y) y = repF fl y := by
  obtain ⟨n, rfl⟩ : ∃ n : Nat, fl = (n : Int) := ⟨fl.toNat, by omega⟩
  have h : n < 65536 := by omega
  have hq : n / 16 < 4096 := by omega
  obtain ⟨k1, k2, k3, k4, k5, k6⟩ := okF_at hq
  have hl : low4 y < 16 := Nat.mod_lt _ (by decide)
  rw [repF_eq h]
  obtain ⟨f, hf⟩ : ∃ f, 16 * zF (n / 16) + low4 y = f := ⟨_, rfl⟩
  have hf16 : f / 16 = zF (n / 16) := by omega
  have hff : f < 65536 := by omega
  rw [hf]
  refine ⟨⟨by omega, by omega⟩, ?_, ?_, ?_, ?_, ?_, ?_⟩
  · rw [opI_eq hff, opI_eq h]; congr 1
    rw [show f / 2048 = f / 16 / 128 by omega, hf16, k2]; omega
  · show codeI (f : Int) = codeI y
    rw [codeI_eq, codeI_eq, low4_nat hff]; congr 1; omega
  · have := bits_and (a := f) (b := 32768) hff (by omega)
    rw [show (32768 : Nat) = 16 * 2048 from rfl, and16, hf16] at this
    have e : bitsI .and .i64 (f : Int) 32768 = ((16 * (zF (n / 16) &&& 2048) : Nat) : Int) := this
    rw [e]; omega
  · have := bits_and (a := f) (b := 512) hff (by omega)
    rw [show (512 : Nat) = 16 * 32 from rfl, and16, hf16, k4] at this
    exact this
  · have := bits_and (a := f) (b := 256) hff (by omega)
    have t2 := bits_and (a := n) (b := 256) h (by omega)
    rw [show (256 : Nat) = 16 * 16 from rfl, and16, hf16, k5] at this
    rw [show (256 : Nat) = 16 * 16 from rfl, and16] at t2
    exact this.trans t2.symm
  · rw [repF_eq hff, hf16, k6, hf]
theorem firstE_nil {α : Type} (f : α → Int) : firstE f [] = 0 := rfl
/-- What Check tells of a message that may be, and of one with its questions alone. -/
theorem msC_zero {id fl : Int} {q : List QuX} {an ns ar : List RcX} (h : msC id fl q an ns ar = 0) : (0 ≤ id ∧ id ≤ 65535) ∧ (0 ≤ fl ∧ fl ≤ 65535) ∧ q.length ≤ 65535 ∧ ∀ f : Int, 0 ≤ f → f ≤ 65535 → msC id f q [] [] [] = 0 := by
  unfold msC at h
  have hn : ∀ x, numB x 65535 = true → 0 ≤ x ∧ x ≤ 65535 := fun x h => by unfold numB at h; exact of_decide_eq_true h
  cases e1 : numB id 65535 with
  | false => rw [e1] at h; simp at h
  | true =>
  cases e2 : numB fl 65535 with
  | false => rw [e1, e2] at h; simp at h
  | true =>
  rw [e1, e2] at h
  rw [if_neg (by decide)] at h
  cases e3 : numB (q.length : Int) 65535 with
  | false => rw [e3] at h; simp at h
  | true =>
  have h3 := hn _ e3
  split at h
  · cases h
  split at h
  · rename_i hne; exact absurd h hne
  rename_i hq
  have hq : firstE quC q = 0 := by simpa using hq
  refine ⟨hn _ e1, hn _ e2, by omega, fun f hf0 hf1 => ?_⟩
  unfold msC
  have ef : numB f 65535 = true := by unfold numB; exact decide_eq_true ⟨hf0, hf1⟩
  rw [e1, ef, e3, hq]
  rfl
end Go.Proofs.Ytcggcoijhdagnaa
/- DERIVED. Lists with room: makes, appends, by lists of elements. -/
namespace Go.Proofs.Ytcggcoijhdagnaa
open Go Go.RowKit
def rc0 : RcX := ⟨⟨#[]⟩, 0, 0, 0, ⟨#[]⟩⟩
def rc7 : RcX := ⟨⟨#[]⟩, 7, 0, 0, ⟨#[]⟩⟩
def rc9 : RcX := ⟨⟨#[]⟩, 9, 0, 0, ⟨#[]⟩⟩
def qu0 : QuX := ⟨⟨#[]⟩, 0, 0⟩
def qu7 : QuX := ⟨⟨#[]⟩, 7, 0⟩
def qu9 : QuX := ⟨⟨#[]⟩, 9, 0⟩
theorem recs_ty : TyIs Try.prog 69 5 56 rc0.v := tyIs_of (by kernel_rfl)
theorem qus_ty : TyIs Try.prog 57 3 32 qu0.v := tyIs_of (by kernel_rfl)
/-- A list, with one more behind it, and room for one. -/
def roomC {α : Type} (L : Lay α) (x0 x7 : α) (l : List α) : List Value := (l ++ [x7, x0]).flatMap L.g
theorem src_lay {α : Type} (L : Lay α) {G : Gh} {b c sz : Nat} {pre post : List Value} {l : List α} (hs : sz = L.k) (hG : (G b).bind AObj.look = some (pre ++ l.flatMap L.g ++ post)) : srcCells G sz (.slice (some ⟨b, pre.length, none⟩) l.length c) = some (l.length, l.flatMap L.g) := by
  subst hs
  unfold srcCells
  cases hl : Nat.beq l.length 0 with
  | true =>
    have : l = [] := List.length_eq_zero_iff.1 (Nat.eq_of_beq_eq_true hl)
    subst this
    simp [hl]
  | false =>
    have h1 := flat_length L.g L.k L.len l
    simp only [hl, cond_false, hG]
    rw [Nat.ble_eq_true_of_le (by simp only [List.length_append, h1]; omega), cond_true, List.append_assoc, List.drop_left, ← h1, List.take_left]
section
variable {P : Program} {ev : Operand → Value} {G : Gh} {n : Nat} {o : Oper}
theorem mk_room {α : Type} (L : Lay α) (x0 : α) {t e : TypeId} {x y : Operand} {k k' : IntKind} {c : Int} {bytes m : Nat} {z : Value} (ht : TyIs P e L.k bytes z) (hz : L.g x0 = z.cells.toList) (ho : o.op = .makeSlice t x y) (hx : ev x = .int k 0) (hy : ev y = .int k' c) (hu : P.underlying t = some (.slice e))
    (hc : c = (m : Int)) (h1 : (bytes : Int) * m ≤ 281474976710656) (h2 : m ≤ 9223372036854775807) :
    aop P o ev G n = .val (.slice (some ⟨n, 0, none⟩) 0 m) [(n, some (.cells ((List.replicate m x0).flatMap L.g) e))] 1 := by
  subst hc
  refine aop_make ho hx hy hu ht ⟨Int.le_refl _, by omega, h1, by omega⟩ ?_ (flat_plain L.g L.plain _) rfl
  exact made_lay L x0 hz m
theorem oneL_flat {α : Type} {g : α → List Value} (h : ∀ x, oneL (g x) = true) (l : List α) : oneL (l.flatMap g) = true := by
  induction l with
  | nil => rfl
  | cons x l ih =>
    have h1 := h x
    unfold oneL at h1 ih ⊢
    rw [List.flatMap_cons, List.all_append, h1, ih]; rfl
theorem ap_room {α : Type} (L : Lay α) (hone : ∀ x, oneL (L.g x) = true) {a x : Operand} {sT xT e : TypeId} {b k k' c : Nat} {C C' ys : List α} {bytes : Nat} {z : Value} {xv : Value} (ht : TyIs P e L.k bytes z) (hzs : z.cells.size = L.k) (ho : o.op = .call { callee := .builtin .append, args := #[a, x], argTypes := #[sT, xT] }) (ha : ev a = .slice (some ⟨b, 0, none⟩) k c) (hx : ev x = xv)
    (hu : P.underlying sT = some (.slice e)) (hn : notInt P xT = true) (hsrc : srcCells G L.k xv = some (ys.length, ys.flatMap L.g)) (hm : ys.length ≠ 0) (hcU : c ≠ U) (hroom : k + ys.length ≤ c) (hg : G b = some (.cells (C.flatMap L.g) e)) (hl : k + ys.length ≤ C.length) (hk : k + ys.length = k') (hC : C.take k ++ ys ++ C.drop k' = C') :
    aop P o ev G n = .val (.slice (some ⟨b, 0, none⟩) k' c) [(b, some (.cells (C'.flatMap L.g) e))] 0 := by
  subst hk; subst hC
  have hp := L.pos
  refine aop_room ho ha hx hu hn ht (by omega) hzs hsrc hm hcU hroom hg ?_ (oneL_flat hone _) ?_
  · rw [flat_length L.g L.k L.len, flat_length L.g L.k L.len, Nat.zero_add, ← Nat.add_mul]
    exact Nat.mul_le_mul_right _ hl
  · rw [Nat.zero_add, flat_length L.g L.k L.len]
    exact flat_over L C ys k hl
end
theorem one_rec (x : RcX) : oneL (layR.g x) = true := rfl
theorem one_qu (x : QuX) : oneL (layQ.g x) = true := rfl
end Go.Proofs.Ytcggcoijhdagnaa
/- DERIVED. Copies of lists with room behind them. -/
namespace Go.Proofs.Ytcggcoijhdagnaa
open Go Go.RowKit
noncomputable def tbCp : Tb Try.prog 0 := tbOf mixed []
set_option maxRecDepth 1000000 in
set_option maxHeartbeats 4000000 in
theorem copyRecs_fn (a b : List Value) (l : List RcX) (c : Nat) (ha : plainL a = true) (hb : plainL b = true) (hl : l.length ≤ 1048576) : ∃ r, FnS Try.prog 0 41 [.slice (some ⟨0, a.length, none⟩) l.length c] (heap 1 [(0, .win (a ++ l.flatMap layR.g ++ b) layR.k)]) 1 r ∧
    ∃ H m wr, r = .ret (.slice (some ⟨1, 0, none⟩) l.length (l.length + 2)) H m wr ∧ (∀ k ∈ wr, 1 ≤ k) ∧ H.get 1 = some (.cells (roomC layR rc0 rc7 l) 69) := by
  have e2 : IntKind.i64.wrap ((l.length : Int) + 2) = ((l.length + 2 : Nat) : Int) := by rw [wrapM (by omega) (by omega)]; omega
  refine fn_sx mixed tbCp [0, 900001, 900002] Try.func41 (c := bodyOf Try.f41) (by kernel_rfl) ?_
  refine Exists.intro (.slice (some ⟨1, 0, none⟩) 0 (l.length + 2)) (Exists.intro [(1, some (.cells ((List.replicate (l.length + 2) rc0).flatMap layR.g) 69))] (Exists.intro 1 (And.intro ?_ ?_)))
  · exact mk_room layR rc0 recs_ty rfl rfl rfl rfl (by kernel_rfl) e2 (by omega) (by omega)
  by_cases hz : l.length = 0
  · have hz : l = [] := List.length_eq_zero_iff.1 hz
    subst hz
    refine Exists.intro (.slice (some ⟨1, 0, none⟩) 0 2) (Exists.intro [] (Exists.intro 0 (And.intro ?_ ?_)))
    · exact aop_room0 (news := []) rfl rfl rfl rfl (by kernel_rfl) recs_ty (by decide) rfl rfl (.inr (by decide))
    refine Exists.intro (.slice (some ⟨1, 0, none⟩) 1 2) (Exists.intro [(1, some (.cells (roomC layR rc0 rc7 []) 69))] (Exists.intro 0 (And.intro ?_ ?_)))
    · exact ap_room layR one_rec (k := 0) (ys := [rc7]) (C := [rc0, rc0]) recs_ty rfl rfl rfl rfl rfl (by kernel_rfl) rfl (by decide) (by decide) (by decide) (by kernel_rfl) (by decide) rfl rfl
    refine And.intro (by kernel_rfl) ?_
    exact ⟨_, _, _, rfl, wr_ge rfl, rfl⟩
  · refine Exists.intro (.slice (some ⟨1, 0, none⟩) l.length (l.length + 2)) (Exists.intro [(1, some (.cells ((l ++ [rc0, rc0]).flatMap layR.g) 69))] (Exists.intro 0 (And.intro ?_ ?_)))
    · exact ap_room layR one_rec (k := 0) (ys := l) (C := List.replicate (l.length + 2) rc0) recs_ty rfl rfl rfl rfl rfl (by kernel_rfl) (src_lay (pre := a) (post := b) layR rfl (by kernel_rfl)) hz (by unfold U; omega) (by omega) (by kernel_rfl) (by rw [List.length_replicate]; omega) (Nat.zero_add _) (by rw [List.take_zero, List.nil_append, List.drop_replicate, show l.length + 2 - l.length = 2 by omega]; rfl)
    refine Exists.intro (.slice (some ⟨1, 0, none⟩) (l.length + 1) (l.length + 2)) (Exists.intro [(1, some (.cells (roomC layR rc0 rc7 l) 69))] (Exists.intro 0 (And.intro ?_ ?_)))
    · exact ap_room layR one_rec (k := l.length) (ys := [rc7]) (C := l ++ [rc0, rc0]) recs_ty rfl rfl rfl rfl rfl (by kernel_rfl) (by kernel_rfl) (by decide) (by unfold U; omega) (by show l.length + 1 ≤ _; omega) (by kernel_rfl) (by simp) rfl (by simp [List.take_left', List.drop_append])
    refine ifK (fun g => absurd (Nat.eq_of_beq_eq_true g) (by unfold U; omega)) (fun _ => ?_)
    refine And.intro ?_ ?_
    · simp only [inLH, Bool.and_eq_true, decide_eq_true_eq]; exact ⟨⟨⟨⟨by omega, by omega⟩, by omega⟩, Nat.ble_eq_true_of_le (by omega)⟩, Nat.ble_eq_true_of_le (by omega)⟩
    exact ⟨_, _, _, rfl, wr_ge rfl, rfl⟩

/-- A function that reads one list, and tells a new one. -/
noncomputable def CtR.rd1N {P : Program} {α : Type} (L : Lay α) (f : FuncId) (Y : Type) (args : Y → List Value) (out : List α → Y → Nat → Value) (new : List α → Y → List Value) (e : TypeId) (pre : List α → Y → Prop) (hp : ∀ y, plainL (args y) = true) (inj : ∀ y z, args y = args z → y = z)
    (hz : (P.info? L.t).map (·.size) = some L.k)
    (ok : ∀ (c : Nat) (a b : List Value) (l : List α) (y : Y), plainL a = true → plainL b = true → pre l y → ∃ v H m wr b', FnS P 0 f (.slice (some ⟨0, a.length, none⟩) l.length c :: args y) (heap 1 [(0, .win (a ++ l.flatMap L.g ++ b) L.k)]) 1 (.ret v H m wr) ∧ (∀ k ∈ wr, 1 ≤ k) ∧
      H.get b' = some (.cells (new l y) e) ∧ 1 ≤ b' ∧ b' < JJ ∧ plainL (new l y) = true ∧ ∀ b0 n', RV (tau [b0] [b'] n') v (out l y n')) : Ct P 0 :=
  CtR.ct { f, X := RdL α × Y, pre := fun x a H _ => a = x.1.sl :: args x.2 ∧ x.1.at L H ∧ pre x.1.l x.2, out := fun x H n => .ret (out x.1.l x.2 n) (H.set n (some (.cells (new x.1.l x.2) e))) (n + 1) [],
           ok := fun ⟨⟨b, c, a, l, z⟩, y⟩ as0 H m ⟨h1, h2, h3⟩ => by
             subst h1
             obtain ⟨v, H', m', wr, b', hF, hw, r1, r2, r3, r4, r5⟩ := ok c a z l y h2.2.1 h2.2.2 h3
             show CallOK P 0 f _ H m (.ret (out l y m) (H.set m (some (.cells (new l y) e))) (m + 1) [])
             exact callOK_readsF (fun n' => out l y n') [b] hF hw dup_one (.cons _ _ _ _ (.sl _ _ _ _ _ rfl) (plain_rl (hp y))) (RdL.blocks h2 hz) r1 r2 r3 r4 (fun n' => r5 b n'),
           uniq := fun ⟨x, y⟩ ⟨x', y'⟩ a H m ⟨h1, h2, _⟩ ⟨k1, k2, _⟩ => by
             rw [h1] at k1
             simp only [List.cons.injEq] at k1
             rw [RdL.uniq k1.1 h2 k2, inj _ _ k1.2] }
noncomputable def ct_copyRecs : Ct Try.prog 0 := CtR.rd1N layR 41 Unit (fun _ => []) (fun l _ n => .slice (some ⟨n, 0, none⟩) l.length (l.length + 2)) (fun l _ => roomC layR rc0 rc7 l) 69 (fun l _ => l.length ≤ 1048576) (fun _ => rfl) (fun _ _ _ => rfl) layR_size
  (fun c a b l y ha hb hl => by
    obtain ⟨r, hF, H, m, wr, rfl, hw, h1⟩ := copyRecs_fn a b l c ha hb hl
    exact ⟨_, H, m, wr, 1, hF, hw, h1, Nat.le_refl _, by decide, flat_plain layR.g layR.plain _, fun b0 n' => .sl _ _ _ _ _ (tau_new (A := [b0]) (Nat.le_refl _))⟩)
noncomputable def inl_copyM : Ct Try.prog 0 := Ct.inl (tbOf mixed [ct_copyRecs]) mixed [0, 900001, 900002] 11 Try.f11 Try.func11 (bodyOf Try.f11) (by kernel_rfl)
noncomputable def tbCp2 : Tb Try.prog 0 := tbOf mixed [ct_bigMs, inl_copyM]
end Go.Proofs.Ytcggcoijhdagnaa
/- DERIVED. CopyMessage. -/
namespace Go.Proofs.Ytcggcoijhdagnaa
open Go Go.RowKit
noncomputable def tbCpM : Tb Try.prog 0 := tbOf mixed [ct_copyRecs]
set_option maxRecDepth 1000000 in
set_option maxHeartbeats 4000000 in
theorem copyM_fn (id fl : Int) (qc : Nat) (qp qz : List Value) (ql : List QuX) (ac : Nat) (ap az : List Value) (al : List RcX) (nc : Nat) (np nz : List Value) (nl : List RcX) (rc : Nat) (rp rz : List Value) (rl : List RcX) (hq1 : plainL qp = true) (hq2 : plainL qz = true) (ha1 : plainL ap = true) (ha2 : plainL az = true) (hn1 : plainL np = true) (hn2 : plainL nz = true) (hr1 : plainL rp = true) (hr2 : plainL rz = true) (hq : ql.length ≤ 1048576) (ha : al.length ≤ 1048576) (hn : nl.length ≤ 1048576) (hr : rl.length ≤ 1048576) :
    ∃ r, FnS Try.prog 0 11 [.agg #[.int .i64 id, .int .i64 fl, .slice (some ⟨0, qp.length, none⟩) ql.length qc, .slice (some ⟨1, ap.length, none⟩) al.length ac, .slice (some ⟨2, np.length, none⟩) nl.length nc, .slice (some ⟨3, rp.length, none⟩) rl.length rc]] (heap 3 [(0, .win (qp ++ ql.flatMap layQ.g ++ qz) layQ.k), (1, .win (ap ++ al.flatMap layR.g ++ az) layR.k), (2, .win (np ++ nl.flatMap layR.g ++ nz) layR.k), (3, .win (rp ++ rl.flatMap layR.g ++ rz) layR.k)]) 4 r ∧
    ∃ H k wr, r = .ret (.agg #[.int .i64 id, .int .i64 fl, .slice (some ⟨6, 0, none⟩) ql.length (ql.length + 2), .slice (some ⟨8, 0, none⟩) al.length (al.length + 2), .slice (some ⟨9, 0, none⟩) nl.length (nl.length + 2), .slice (some ⟨10, 0, none⟩) rl.length (rl.length + 2)]) H k wr ∧ (∀ i ∈ wr, 4 ≤ i) ∧
      H.get 6 = some (.cells (roomC layQ qu0 qu7 ql) 57) ∧ H.get 8 = some (.cells (roomC layR rc0 rc7 al) 69) ∧ H.get 9 = some (.cells (roomC layR rc0 rc7 nl) 69) ∧ H.get 10 = some (.cells (roomC layR rc0 rc7 rl) 69) := by
  have e2 : IntKind.i64.wrap ((ql.length : Int) + 2) = ((ql.length + 2 : Nat) : Int) := by rw [wrapM (by omega) (by omega)]; omega
  refine fn_sx mixed tbCpM [0, 900001, 900002] Try.func11 (c := bodyOf Try.f11) (by kernel_rfl) ?_
  refine And.intro (by kernel_rfl) ?_
  refine Exists.intro (Value.slice (some ⟨6, 0, none⟩) 0 (ql.length + 2)) (Exists.intro [((6 : Nat), some (AObj.cells ((List.replicate (ql.length + 2) qu0).flatMap layQ.g) 57))] (Exists.intro (1 : Nat) (And.intro ?_ ?_)))
  · exact mk_room layQ qu0 qus_ty rfl rfl rfl rfl (by kernel_rfl) e2 (by omega) (by omega)
  by_cases hz : ql.length = 0
  · have hz : ql = [] := List.length_eq_zero_iff.1 hz
    subst hz
    refine Exists.intro (Value.slice (some ⟨6, 0, none⟩) 0 2) (Exists.intro ([] : List (Nat × Option AObj)) (Exists.intro (0 : Nat) (And.intro ?_ ?_)))
    · exact aop_room0 (news := []) rfl rfl rfl rfl (by kernel_rfl) qus_ty (by decide) rfl rfl (.inr (by decide))
    refine Exists.intro (Value.slice (some ⟨6, 0, none⟩) 1 2) (Exists.intro [((6 : Nat), some (AObj.cells (roomC layQ qu0 qu7 []) 57))] (Exists.intro (0 : Nat) (And.intro ?_ ?_)))
    · exact ap_room layQ one_qu (k := 0) (ys := [qu7]) (C := [qu0, qu0]) qus_ty rfl rfl rfl rfl rfl (by kernel_rfl) rfl (by decide) (by decide) (by decide) (by kernel_rfl) (by decide) rfl rfl
    refine And.intro (by kernel_rfl) ?_
    refine Exists.intro (⟨1, ac, ap, al, az⟩, ()) (And.intro ⟨rfl, ⟨seesB_of (by kernel_rfl), ha1, ha2⟩, ha⟩ ?_)
    refine Exists.intro (⟨2, nc, np, nl, nz⟩, ()) (And.intro ⟨rfl, ⟨seesB_of (by kernel_rfl), hn1, hn2⟩, hn⟩ ?_)
    refine Exists.intro (⟨3, rc, rp, rl, rz⟩, ()) (And.intro ⟨rfl, ⟨seesB_of (by kernel_rfl), hr1, hr2⟩, hr⟩ ?_)
    exact ⟨_, _, _, rfl, wr_ge rfl, rfl, rfl, rfl, rfl⟩
  · refine Exists.intro (Value.slice (some ⟨6, 0, none⟩) ql.length (ql.length + 2)) (Exists.intro [((6 : Nat), some (AObj.cells ((ql ++ [qu0, qu0]).flatMap layQ.g) 57))] (Exists.intro (0 : Nat) (And.intro ?_ ?_)))
    · exact ap_room layQ one_qu (k := 0) (ys := ql) (C := List.replicate (ql.length + 2) qu0) qus_ty rfl rfl rfl rfl rfl (by kernel_rfl) (src_lay (pre := qp) (post := qz) layQ rfl (by kernel_rfl)) hz (by unfold U; omega) (by omega) (by kernel_rfl) (by rw [List.length_replicate]; omega) (Nat.zero_add _) (by rw [List.take_zero, List.nil_append, List.drop_replicate, show ql.length + 2 - ql.length = 2 by omega]; rfl)
    refine Exists.intro (Value.slice (some ⟨6, 0, none⟩) (ql.length + 1) (ql.length + 2)) (Exists.intro [((6 : Nat), some (AObj.cells (roomC layQ qu0 qu7 ql) 57))] (Exists.intro (0 : Nat) (And.intro ?_ ?_)))
    · exact ap_room layQ one_qu (k := ql.length) (ys := [qu7]) (C := ql ++ [qu0, qu0]) qus_ty rfl rfl rfl rfl rfl (by kernel_rfl) (by kernel_rfl) (by decide) (by unfold U; omega) (by show ql.length + 1 ≤ _; omega) (by kernel_rfl) (by simp) rfl (by simp [List.take_left', List.drop_append])
    refine ifK (fun g => absurd (Nat.eq_of_beq_eq_true g) (by unfold U; omega)) (fun _ => ?_)
    refine And.intro ?_ ?_
    · simp only [inLH, Bool.and_eq_true, decide_eq_true_eq]; exact ⟨⟨⟨⟨by omega, by omega⟩, by omega⟩, Nat.ble_eq_true_of_le (by omega)⟩, Nat.ble_eq_true_of_le (by omega)⟩
    refine Exists.intro (⟨1, ac, ap, al, az⟩, ()) (And.intro ⟨rfl, ⟨seesB_of (by kernel_rfl), ha1, ha2⟩, ha⟩ ?_)
    refine Exists.intro (⟨2, nc, np, nl, nz⟩, ()) (And.intro ⟨rfl, ⟨seesB_of (by kernel_rfl), hn1, hn2⟩, hn⟩ ?_)
    refine Exists.intro (⟨3, rc, rp, rl, rz⟩, ()) (And.intro ⟨rfl, ⟨seesB_of (by kernel_rfl), hr1, hr2⟩, hr⟩ ?_)
    exact ⟨_, _, _, rfl, wr_ge rfl, rfl, rfl, rfl, rfl⟩
/-- CopyMessage: a message in memory of its own, with room. -/
noncomputable def ct_copyM : Ct Try.prog 0 :=
  CtR.ct { f := 11, X := MsL, pre := fun m a H _ => a = [m.v] ∧ m.at H ∧ m.q.l.length ≤ 1048576 ∧ m.an.l.length ≤ 1048576 ∧ m.ns.l.length ≤ 1048576 ∧ m.ar.l.length ≤ 1048576,
           out := fun m H n => .ret (.agg #[.int .i64 m.id, .int .i64 m.fl, .slice (some ⟨n, 0, none⟩) m.q.l.length (m.q.l.length + 2), .slice (some ⟨n + 1, 0, none⟩) m.an.l.length (m.an.l.length + 2), .slice (some ⟨n + 2, 0, none⟩) m.ns.l.length (m.ns.l.length + 2), .slice (some ⟨n + 3, 0, none⟩) m.ar.l.length (m.ar.l.length + 2)])
             (layN H n [(roomC layQ qu0 qu7 m.q.l, 57), (roomC layR rc0 rc7 m.an.l, 69), (roomC layR rc0 rc7 m.ns.l, 69), (roomC layR rc0 rc7 m.ar.l, 69)]) (n + 4) [],
           ok := fun m as0 H n ⟨h1, h2, h3⟩ => by
             subst h1
             obtain ⟨id, fl, ⟨q0, qc, qp, ql, qz⟩, ⟨a0, ac, ap, al, az⟩, ⟨n0, nc, np, nl, nz⟩, ⟨r0, rc, rp, rl, rz⟩⟩ := m
             obtain ⟨c1, c2, c3, c4⟩ := h2
             obtain ⟨f1, f2, f3, f4⟩ := h3
             obtain ⟨r, hF, H', k, wr, rfl, hw, g1, g2, g3, g4⟩ := copyM_fn id fl qc qp qz ql ac ap az al nc np nz nl rc rp rz rl c1.2.1 c1.2.2 c2.2.1 c2.2.2 c3.2.1 c3.2.2 c4.2.1 c4.2.2 f1 f2 f3 f4
             obtain ⟨o1, e1, r1⟩ := c1.1.ro (P := Try.prog) (σ := caR [q0, a0, n0, r0]) (RdL.plain c1.2.1 c1.2.2) layQ_size
             obtain ⟨o2, e2, r2⟩ := c2.1.ro (P := Try.prog) (σ := caR [q0, a0, n0, r0]) (RdL.plain c2.2.1 c2.2.2) layR_size
             obtain ⟨o3, e3, r3⟩ := c3.1.ro (P := Try.prog) (σ := caR [q0, a0, n0, r0]) (RdL.plain c3.2.1 c3.2.2) layR_size
             obtain ⟨o4, e4, r4⟩ := c4.1.ro (P := Try.prog) (σ := caR [q0, a0, n0, r0]) (RdL.plain c4.2.1 c4.2.2) layR_size
             refine callOK_news (fun n => .agg #[.int .i64 id, .int .i64 fl, .slice (some ⟨n, 0, none⟩) ql.length (ql.length + 2), .slice (some ⟨n + 1, 0, none⟩) al.length (al.length + 2), .slice (some ⟨n + 2, 0, none⟩) nl.length (nl.length + 2), .slice (some ⟨n + 3, 0, none⟩) rl.length (rl.length + 2)]) [q0, a0, n0, r0] [6, 8, 9, 10]
               [(roomC layQ qu0 qu7 ql, 57), (roomC layR rc0 rc7 al, 69), (roomC layR rc0 rc7 nl, 69), (roomC layR rc0 rc7 rl, 69)] hF hw (dup_win (fun x hx => by simp only [List.mem_cons, List.not_mem_nil, or_false] at hx; rcases hx with rfl | rfl | rfl | rfl <;> trivial))
               (ArgOK.of (.cons _ _ _ _ (.agg _ _ (.cons _ _ _ _ (.int _ _) (.cons _ _ _ _ (.int _ _) (.cons _ _ _ _ (.sl _ _ _ _ _ rfl) (.cons _ _ _ _ (.sl _ _ _ _ _ rfl) (.cons _ _ _ _ (.sl _ _ _ _ _ rfl) (.cons _ _ _ _ (.sl _ _ _ _ _ rfl) .nil))))))) .nil))
               (callB_of ⟨⟨_, o1, rfl, e1, r1⟩, ⟨_, o2, rfl, e2, r2⟩, ⟨_, o3, rfl, e3, r3⟩, ⟨_, o4, rfl, e4, r4⟩, trivial⟩) (by decide) (fun x hx => by simp only [List.mem_cons, List.not_mem_nil, or_false] at hx; rcases hx with rfl | rfl | rfl | rfl <;> exact ⟨by show 4 ≤ _; decide, by decide⟩) rfl (fun i b xs e hb hc => ?_)
               (fun n => .agg _ _ (.cons _ _ _ _ (.int _ _) (.cons _ _ _ _ (.int _ _) (.cons _ _ _ _ (.sl _ _ _ _ _ (tau_at 0 (by decide) (by show 4 ≤ _; decide) rfl)) (.cons _ _ _ _ (.sl _ _ _ _ _ (tau_at 1 (by decide) (by show 4 ≤ _; decide) rfl)) (.cons _ _ _ _ (.sl _ _ _ _ _ (tau_at 2 (by decide) (by show 4 ≤ _; decide) rfl)) (.cons _ _ _ _ (.sl _ _ _ _ _ (tau_at 3 (by decide) (by show 4 ≤ _; decide) rfl)) .nil)))))))
             match i, hb, hc with
             | 0, hb, hc => cases hb; cases hc; exact ⟨g1, flat_plain layQ.g layQ.plain _⟩
             | 1, hb, hc => cases hb; cases hc; exact ⟨g2, flat_plain layR.g layR.plain _⟩
             | 2, hb, hc => cases hb; cases hc; exact ⟨g3, flat_plain layR.g layR.plain _⟩
             | 3, hb, hc => cases hb; cases hc; exact ⟨g4, flat_plain layR.g layR.plain _⟩
             | i + 4, hb, hc => simp at hb,
           uniq := fun x x' a H m ⟨h1, h2, _⟩ ⟨k1, k2, _⟩ => by
             rw [h1] at k1
             simp only [List.cons.injEq, and_true] at k1
             rw [MsL.uniq k1 h2 k2] }
end Go.Proofs.Ytcggcoijhdagnaa
/- DERIVED. OverMessage, of a message with questions alone. -/
namespace Go.Proofs.Ytcggcoijhdagnaa
open Go Go.RowKit
def overL {α : Type} (x : α) (l : List α) (i : Nat) : List α := List.replicate i x ++ l.drop i
theorem overL_set {α : Type} (x : α) (l : List α) (i : Nat) (h : i < l.length) : (overL x l i).set i x = overL x l (i + 1) := by
  unfold overL
  rw [List.set_append_right _ _ (by simp), List.length_replicate, Nat.sub_self, List.drop_eq_getElem_cons h, List.set_cons_zero, List.replicate_succ', List.append_assoc]; rfl
theorem overL_length {α : Type} (x : α) (l : List α) (i : Nat) (h : i ≤ l.length) : (overL x l i).length = l.length := by
  unfold overL; rw [List.length_append, List.length_replicate, List.length_drop]; omega
theorem overL_all {α : Type} (x : α) (l : List α) : overL x l l.length = List.replicate l.length x := by unfold overL; rw [List.drop_length, List.append_nil]
noncomputable def tbOv : Tb Try.prog 0 := tbOf mixed []
def ovS (id fl : Int) (ql : List QuX) (qc : Nat) (qz : List Value) (i : Nat) (f : Nat → Option Value) : Fs := ⟨slots 6 [(1, .pointer (some ⟨1, 0, none⟩)), (2, .int .i64 i)] f, heap 2 [(0, .cells ((overL qu9 ql i).flatMap layQ.g ++ qz) 57), (1, .cells [.int .i64 id, .int .i64 fl, .slice (some ⟨0, 0, none⟩) ql.length qc, .slice none 0 0, .slice none 0 0, .slice none 0 0] 25)], 2, [0], []⟩
set_option maxRecDepth 1000000 in
set_option maxHeartbeats 4000000 in
theorem overM_fn (id fl : Int) (ql : List QuX) (qc : Nat) (qz : List Value) (hz : plainL qz = true) (hl : ql.length ≤ 9223372036854775807) :
    ∃ r, FnS Try.prog 0 27 [.agg #[.int .i64 id, .int .i64 fl, .slice (some ⟨0, 0, none⟩) ql.length qc, .slice none 0 0, .slice none 0 0, .slice none 0 0]] (heap 1 [(0, .cells (ql.flatMap layQ.g ++ qz) 57)]) 1 r ∧
      ∃ H k wr, r = .ret (.tuple #[]) H k wr ∧ 0 ∈ wr ∧ H.get 0 = some (.cells ((List.replicate ql.length qu9).flatMap layQ.g ++ qz) 57) := by
  have hsz : (Try.prog.types[57]).size = 3 := by kernel_rfl
  have pl : ∀ i, plainL ((overL qu9 ql i).flatMap layQ.g ++ qz) = true := fun i => by rw [plainL_append, flat_plain layQ.g layQ.plain, hz]; rfl
  refine fn_sx mixed tbOv [0, 900003] Try.func27 (c := bodyOf Try.f27) (by kernel_rfl) ?_
  refine loop_goX (ovS id fl ql qc qz) (fun i => ql.length - i) (fun i => i ≤ ql.length) 0 (Nat.zero_le _)
    (rc_slots [1] rfl rfl rfl (fun l e => by cases e) (by decide) (by decide) rfl rfl (wr_of rfl) ⟨⟨_, rfl, .ptr _ _ _ rfl⟩, ⟨_, rfl, .int _ _⟩, trivial⟩ ⟨⟨by decide, _, rfl, (by first | exact .same (pl 0) | exact .sameW (pl 0))⟩, ⟨by decide, _, rfl, RO.cells [.int .i64 id, .int .i64 fl, .slice (some ⟨0, 0, none⟩) ql.length qc, .slice none 0 0, .slice none 0 0, .slice none 0 0] [] _ _ (.cons _ _ _ _ (.int _ _) (.cons _ _ _ _ (.int _ _) (.cons _ _ _ _ (.sl _ _ _ _ _ rfl) (.cons _ _ _ _ (plain_rv 8 rfl) (.cons _ _ _ _ (plain_rv 8 rfl) (.cons _ _ _ _ (plain_rv 8 rfl) .nil))))))⟩, trivial⟩ .nil) ?_
  rintro i f hi
  have hi : i ≤ ql.length := hi
  refine sx_ok tbOv [0, 900003] 1 _ none mixed _ _ _ ?_
  refine ifK (fun h1 => ?_) (fun h1 => ?_)
  · have h1 : i < ql.length := by have h1 : ((i : Nat) : Int) < (ql.length : Int) := of_decide_eq_true h1; omega
    refine ifK (fun _ => ?_) (fun h2 => absurd h2 (by simp [inI]; omega))
    refine Exists.intro undef (Exists.intro [((0 : Nat), some (AObj.cells ((overL qu9 ql (i + 1)).flatMap layQ.g ++ qz) 57))] (Exists.intro (0 : Nat) (And.intro ?_ ?_)))
    · refine aop_store (b := 0) (off := 0 + i * 3) (sz := 3) (bytes := 32) (z := qu0.v) (v := qu9.v) (C := (overL qu9 ql i).flatMap layQ.g ++ qz) rfl ?_ rfl rfl qus_ty rfl rfl ?_ ?_
      · show Value.pointer _ = _
        rw [hsz]; rfl
      · rw [List.length_append, flat_length layQ.g layQ.k layQ.len, overL_length _ _ _ hi]
        have : i * 3 + 3 ≤ ql.length * 3 := by omega
        show 0 + i * 3 + 3 ≤ ql.length * 3 + qz.length
        omega
      · have := flat_set layQ [] qz (overL qu9 ql i) i qu9 (by rw [overL_length _ _ _ hi]; exact h1)
        rw [overL_set _ _ _ h1] at this
        exact this
    exact ⟨i + 1, h1, by show ql.length - (i + 1) < ql.length - i; omega, rc_slots [1] rfl rfl rfl (fun l e => by cases e) (by decide) (by decide) rfl rfl (wr_of rfl) ⟨⟨_, rfl, .ptr _ _ _ rfl⟩, slot_int rfl (by rw [wrapN (by omega) (by omega)]; omega), trivial⟩ ⟨⟨by decide, _, rfl, (by first | exact .same (pl (i + 1)) | exact .sameW (pl (i + 1)))⟩, ⟨by decide, _, rfl, RO.cells [.int .i64 id, .int .i64 fl, .slice (some ⟨0, 0, none⟩) ql.length qc, .slice none 0 0, .slice none 0 0, .slice none 0 0] [] _ _ (.cons _ _ _ _ (.int _ _) (.cons _ _ _ _ (.int _ _) (.cons _ _ _ _ (.sl _ _ _ _ _ rfl) (.cons _ _ _ _ (plain_rv 8 rfl) (.cons _ _ _ _ (plain_rv 8 rfl) (.cons _ _ _ _ (plain_rv 8 rfl) .nil))))))⟩, trivial⟩ .nil⟩
  have h1 : i = ql.length := by have h1 : ¬ ((i : Nat) : Int) < (ql.length : Int) := of_decide_eq_false h1; omega
  subst h1
  rw [← overL_all]
  refine And.intro rfl (rc_end (rc_slots [1] rfl rfl rfl (fun l e => by cases e) (by decide) (by decide) rfl rfl (wr_of rfl) (d := 6) (d2 := 2) (lv := [(1, .pointer (some ⟨1, 0, none⟩))]) (bs := [(0, .cells ((overL qu9 ql ql.length).flatMap layQ.g ++ qz) 57), (1, .cells [.int .i64 id, .int .i64 fl, .slice (some ⟨0, 0, none⟩) ql.length qc, .slice none 0 0, .slice none 0 0, .slice none 0 0] 25)]) (W := [0]) (m := 2) (df := []) ⟨⟨_, rfl, .ptr _ _ _ rfl⟩, trivial⟩ ⟨⟨by decide, _, rfl, (by first | exact .same (pl ql.length) | exact .sameW (pl ql.length))⟩, ⟨by decide, _, rfl, RO.cells [.int .i64 id, .int .i64 fl, .slice (some ⟨0, 0, none⟩) ql.length qc, .slice none 0 0, .slice none 0 0, .slice none 0 0] [] _ _ (.cons _ _ _ _ (.int _ _) (.cons _ _ _ _ (.int _ _) (.cons _ _ _ _ (.sl _ _ _ _ _ rfl) (.cons _ _ _ _ (plain_rv 8 rfl) (.cons _ _ _ _ (plain_rv 8 rfl) (.cons _ _ _ _ (plain_rv 8 rfl) .nil))))))⟩, trivial⟩ .nil) (fun f => ?_))
  refine LW.round ?_
  refine sx_ok tbOv [0, 900003] 1 _ none mixed _ _ _ ?_
  refine LW.round ?_
  refine sx_ok tbOv [0, 900003] 1 _ none mixed _ _ _ ?_
  refine LW.round ?_
  refine sx_ok tbOv [0, 900003] 1 _ none mixed _ _ _ ?_
  refine LW.round ?_
  refine sx_ok tbOv [0, 900003] 1 _ none mixed _ _ _ ?_
  refine LW.round ?_
  refine sx_ok tbOv [0, 900003] 1 _ none mixed _ _ _ ?_
  refine LW.round ?_
  refine sx_ok tbOv [0, 900003] 1 _ none mixed _ _ _ ?_
  refine LW.round ?_
  refine sx_ok tbOv [0, 900003] 1 _ none mixed _ _ _ ?_
  exact ⟨_, _, _, rfl, List.mem_of_elem_eq_true (by kernel_rfl), rfl⟩
/-- A message of its own questions, and no records: whose it is, where it lies. -/
structure MsQ where
  id : Int
  fl : Int
  b : Nat
  l : List QuX
  c : Nat
  z : List Value
def MsQ.v (m : MsQ) : Value := .agg #[.int .i64 m.id, .int .i64 m.fl, .slice (some ⟨m.b, 0, none⟩) m.l.length m.c, .slice none 0 0, .slice none 0 0, .slice none 0 0]
noncomputable def ct_overQ : Ct Try.prog 0 :=
  CtR.ct { f := 27, X := MsQ, pre := fun m a H _ => a = [m.v] ∧ H.get m.b = some (.cells (m.l.flatMap layQ.g ++ m.z) 57) ∧ plainL m.z = true ∧ m.l.length ≤ 9223372036854775807,
           out := fun m H n => .ret (.tuple #[]) (H.set m.b (some (.cells ((List.replicate m.l.length qu9).flatMap layQ.g ++ m.z) 57))) n [m.b],
           tr := fun m H n K => frcN m.b fun b => K (.ret (.tuple #[]) (H.set b (some (.cells ((List.replicate m.l.length qu9).flatMap layQ.g ++ m.z) 57))) n [b]),
           trOk := fun m H n K h => by rw [frcN_eq] at h; exact h,
           ok := fun m as0 H n ⟨h1, h2, h3, h4⟩ => by
             subst h1
             obtain ⟨id, fl, b, l, c, z⟩ := m
             obtain ⟨r, hF, H', k, wr, rfl, h0w, hg⟩ := overM_fn id fl l c z h3 h4
             refine callOK_write1 (b := b) (c0 := l.flatMap layQ.g ++ z) (c1 := (List.replicate l.length qu9).flatMap layQ.g ++ z) hF h2 h0w hg ?_ ?_ rfl (ArgOK.of (.cons _ _ _ _ (.agg _ _ (.cons _ _ _ _ (.int _ _) (.cons _ _ _ _ (.int _ _) (.cons _ _ _ _ (.sl _ _ _ _ _ rfl) (.cons _ _ _ _ (plain_rv 8 rfl) (.cons _ _ _ _ (plain_rv 8 rfl) (.cons _ _ _ _ (plain_rv 8 rfl) .nil))))))) .nil))
             · rw [plainL_append, flat_plain layQ.g layQ.plain, h3]; rfl
             · rw [plainL_append, flat_plain layQ.g layQ.plain, h3]; rfl,
           uniq := fun x x' a H m ⟨h1, h2, h3, _⟩ ⟨k1, k2, k3, _⟩ => by
             obtain ⟨id, fl, b, l, c, z⟩ := x
             obtain ⟨id', fl', b', l', c', z'⟩ := x'
             rw [h1] at k1
             simp only [MsQ.v, List.cons.injEq, and_true, Value.agg.injEq, Array.mk.injEq, Value.int.injEq, true_and, Value.slice.injEq, Option.some.injEq, Addr.mk.injEq] at k1
             obtain ⟨rfl, rfl, rfl, e1, rfl⟩ := k1
             have h2 : H.get b = _ := h2
             have k2 : H.get b = _ := k2
             rw [h2] at k2
             simp only [Option.some.injEq, AObj.cells.injEq, and_true] at k2
             obtain ⟨e2, e3⟩ := List.append_inj k2 (by rw [flat_length layQ.g layQ.k layQ.len, flat_length layQ.g layQ.k layQ.len]; exact congrArg (· * layQ.k) e1)
             have := layQ.flat_inj _ _ e2
             subst this; subst e3; rfl }
end Go.Proofs.Ytcggcoijhdagnaa
/- DERIVED. The law's walk: MsgReply. -/
namespace Go.Proofs.Ytcggcoijhdagnaa
open Go Go.RowKit
def nilQ : List Value → Bool
  | .agg ⟨[_, _, x, _, _, _]⟩ :: _ => isNil x
  | _ => false
noncomputable def inl_reply0 : Ct Try.prog 0 := Ct.inl (tbOf mixed [ct_with]) mixed [] 24 Try.f24 Try.func24 (bodyOf Try.f24) (by kernel_rfl)
noncomputable def inl_reply1 : Ct Try.prog 0 := Ct.inl (tbOf mixed [ct_with]) mixed [0, 7] 24 Try.f24 Try.func24 (bodyOf Try.f24) (by kernel_rfl)
noncomputable def inl_reply : Ct Try.prog 0 := Ct.alt nilQ inl_reply0 inl_reply1 rfl
noncomputable def inl_sameM : Ct Try.prog 0 := Ct.inl (tbOf mixed [ct_sameQ, ct_sameRs]) mixed [] 26 Try.f26 Try.func26 (bodyOf Try.f26) (by kernel_rfl)
noncomputable def tbMs6 : Tb Try.prog 0 := tbOf mixed [ct_bigMs, ct_msCheck, inl_reply, ct_sameQ, ct_op, ct_code, inl_sameM, Ct.yes 19 awake8_calls]
theorem msBig_no {m : MsL} {n y : Int} (h : bigMs n y m = false) : (∀ x ∈ m.q.l, (x.n.data.size : Int) ≤ y) ∧ (∀ l, l = m.an.l ∨ l = m.ns.l ∨ l = m.ar.l → ∀ x ∈ l, (x.n.data.size : Int) ≤ y ∧ (x.d.data.size : Int) ≤ y) := by
  unfold bigMs at h
  simp only [Bool.or_eq_false_iff, List.any_eq_false] at h
  obtain ⟨_, h1, h2, h3, h4⟩ := h
  refine ⟨fun x hx => ?_, fun l hl x hx => ?_⟩
  · have := h1 x hx
    unfold bigQ at this
    simp only [decide_eq_true_iff, gt_iff_lt, Int.not_lt] at this
    exact this
  · have : ¬ bigR y x = true := by
      rcases hl with rfl | rfl | rfl
      · exact h2 x hx
      · exact h3 x hx
      · exact h4 x hx
    unfold bigR at this
    simp only [Bool.or_eq_true, decide_eq_true_iff, gt_iff_lt, not_or, Int.not_lt] at this
    exact this
set_option maxRecDepth 1000000 in
set_option maxHeartbeats 4000000 in
theorem reply_fn (id fl : Int) (qc : Nat) (qp qz : List Value) (ql : List QuX) (ac : Nat) (ap az : List Value) (al : List RcX) (nc : Nat) (np nz : List Value) (nl : List RcX) (rc : Nat) (rp rz : List Value) (rl : List RcX) (y : Int) (hq1 : plainL qp = true) (hq2 : plainL qz = true) (ha1 : plainL ap = true) (ha2 : plainL az = true) (hn1 : plainL np = true) (hn2 : plainL nz = true) (hr1 : plainL rp = true) (hr2 : plainL rz = true) (hf : MsL.fit ⟨id, fl, ⟨0, qc, qp, ql, qz⟩, ⟨1, ac, ap, al, az⟩, ⟨2, nc, np, nl, nz⟩, ⟨3, rc, rp, rl, rz⟩⟩) :
    ∃ r, FnS Try.prog 0 6 [.agg #[.int .i64 id, .int .i64 fl, .slice (some ⟨0, qp.length, none⟩) ql.length qc, .slice (some ⟨1, ap.length, none⟩) al.length ac, .slice (some ⟨2, np.length, none⟩) nl.length nc, .slice (some ⟨3, rp.length, none⟩) rl.length rc], .int .i64 y] (heap 3 [(0, .win (qp ++ ql.flatMap layQ.g ++ qz) layQ.k), (1, .win (ap ++ al.flatMap layR.g ++ az) layR.k), (2, .win (np ++ nl.flatMap layR.g ++ nz) layR.k), (3, .win (rp ++ rl.flatMap layR.g ++ rz) layR.k)]) 4 r ∧ ∃ H k wr, r = .ret (.bool true) H k wr ∧ ∀ i ∈ wr, 4 ≤ i := by
  have hsz : (Try.prog.types[57]).size = 3 := by kernel_rfl
  have hby : (Try.prog.types[57]).bytes = 32 := by kernel_rfl
  refine fn_sx mixed tbMs6 [0, 1, 2, 3] Try.func6 (c := bodyOf Try.f6) (by kernel_rfl) ?_
  refine Exists.intro (⟨id, fl, ⟨0, qc, qp, ql, qz⟩, ⟨1, ac, ap, al, az⟩, ⟨2, nc, np, nl, nz⟩, ⟨3, rc, rp, rl, rz⟩⟩, 200, 3000) (And.intro ⟨rfl, ⟨⟨seesB_of (by kernel_rfl), hq1, hq2⟩, ⟨seesB_of (by kernel_rfl), ha1, ha2⟩, ⟨seesB_of (by kernel_rfl), hn1, hn2⟩, ⟨seesB_of (by kernel_rfl), hr1, hr2⟩⟩, hf⟩ ?_)
  refine ifK (fun _ => ⟨_, _, _, rfl, wr_ge rfl⟩) (fun hb => ?_)
  have hb := msBig_no (n := 200) (y := 3000) hb
  have fq : ∀ x ∈ ql, shortB x.n = true := fun x hx => by have := hb.1 x hx; exact shortB_of (by rw [← bs_size]; omega)
  have fr : ∀ l, l = al ∨ l = nl ∨ l = rl → ∀ x ∈ l, x.ok = true := fun l hl x hx => by
    have := hb.2 l hl x hx
    unfold RcX.ok
    rw [Nat.ble_eq_true_of_le (by omega), Nat.ble_eq_true_of_le (by omega)]; rfl
  refine Exists.intro (⟨id, fl, .at ⟨0, qc, qp, ql, qz⟩, .at ⟨1, ac, ap, al, az⟩, .at ⟨2, nc, np, nl, nz⟩, .at ⟨3, rc, rp, rl, rz⟩⟩, ()) (And.intro ⟨rfl, ⟨⟨seesB_of (by kernel_rfl), hq1, hq2⟩, ⟨seesB_of (by kernel_rfl), ha1, ha2⟩, ⟨seesB_of (by kernel_rfl), hn1, hn2⟩, ⟨seesB_of (by kernel_rfl), hr1, hr2⟩⟩, fq, fr _ (.inl rfl), fr _ (.inr (.inl rfl)), fr _ (.inr (.inr rfl))⟩ ?_)
  refine ifK (fun _ => ⟨_, _, _, rfl, wr_ge rfl⟩) (fun hc => ?_)
  have hc : (msC id fl ql al nl rl != 0) = false := hc
  have hc : msC id fl ql al nl rl = 0 := by simpa using hc
  obtain ⟨_, ⟨w1, w2⟩, hq, hz⟩ := msC_zero hc
  obtain ⟨⟨v1, v2⟩, v3, v4, v5, v6, v7, v8⟩ := repF_law w1 w2 y
  have hz := hz _ v1 v2
  refine And.intro (by kernel_rfl) ?_
  refine Exists.intro (ql.flatMap layQ.g) (And.intro (src_lay (pre := qp) (post := qz) layQ hsz (by kernel_rfl)) ?_)
  refine ifK (fun h0 => ?_) (fun h0 => ?_)
  · have h0 : ql = [] := List.length_eq_zero_iff.1 (Nat.eq_of_beq_eq_true h0)
    refine Exists.intro (⟨id, repF fl y, .nl, .nl, .nl, .nl⟩, ()) (And.intro ⟨rfl, ⟨⟨0, qp ++ ql.flatMap layQ.g ++ qz, seesB_of (by kernel_rfl)⟩, ⟨1, ap ++ al.flatMap layR.g ++ az, seesB_of (by kernel_rfl)⟩, ⟨1, ap ++ al.flatMap layR.g ++ az, seesB_of (by kernel_rfl)⟩, ⟨1, ap ++ al.flatMap layR.g ++ az, seesB_of (by kernel_rfl)⟩⟩, (fun x hx => by cases hx), (fun x hx => by cases hx), (fun x hx => by cases hx), (fun x hx => by cases hx)⟩ ?_)
    refine ifK (fun g => by have g : (msC id (repF fl y) [] [] [] [] != 0) = true := g; exact absurd (h0 ▸ hz) (by simpa using g)) (fun _ => ?_)
    refine ifK (fun g => by exact absurd g (by simp)) (fun _ => ?_)
    refine ifK (fun g => by exact absurd g (by subst h0; simp)) (fun _ => ?_)
    refine And.intro (by kernel_rfl) ?_
    refine ifK (fun g => by exact absurd v3 (by have g : (opI (repF fl y) != opI fl) = true := g; simpa using g)) (fun _ => ?_)
    refine ifK (fun g => by exact absurd v4 (by have g : (codeI (repF fl y) != bitsI .and .i64 y 15) = true := g; simpa using g)) (fun _ => ?_)
    refine ifK (fun g => by exact absurd (by have g : (bitsI .and .i64 (repF fl y) 32768 == 0) = true := g; simpa using g) v5) (fun _ => ?_)
    refine ifK (fun g => by exact absurd v6 (by have g : (bitsI .and .i64 (repF fl y) 512 != 0) = true := g; simpa using g)) (fun _ => ?_)
    refine ifK (fun g => by exact absurd v7 (by have g : (bitsI .and .i64 (repF fl y) 256 != bitsI .and .i64 fl 256) = true := g; simpa using g)) (fun _ => ?_)
    refine And.intro (by kernel_rfl) ?_
    refine And.intro (by kernel_rfl) ?_
    refine ifK (fun _ => ?_) (fun g => by exact absurd g (by simp))
    refine ifK (fun _ => ?_) (fun g => by exact absurd v8 (by have g : (repF (repF fl y) y == repF fl y) = false := g; simpa using g))
    exact ⟨_, _, _, rfl, wr_ge rfl⟩
  · have h0 : ¬ ql.length = 0 := fun e => by rw [e] at h0; cases h0
    refine And.intro (by rw [hby, decide_eq_true (by omega), decide_eq_true (by omega)]; rfl) ?_
    refine Exists.intro (⟨id, repF fl y, .at ⟨7, U, [], ql, []⟩, .nl, .nl, .nl⟩, ()) (And.intro ⟨rfl, ⟨⟨by rw [RdL.cells, List.append_nil, List.nil_append]; exact seesB_of (by kernel_rfl), rfl, rfl⟩, ⟨1, ap ++ al.flatMap layR.g ++ az, seesB_of (by kernel_rfl)⟩, ⟨1, ap ++ al.flatMap layR.g ++ az, seesB_of (by kernel_rfl)⟩, ⟨1, ap ++ al.flatMap layR.g ++ az, seesB_of (by kernel_rfl)⟩⟩, fq, (fun x hx => by cases hx), (fun x hx => by cases hx), (fun x hx => by cases hx)⟩ ?_)
    refine ifK (fun g => by have g : (msC id (repF fl y) ql [] [] [] != 0) = true := g; exact absurd hz (by simpa using g)) (fun _ => ?_)
    refine ifK (fun g => by exact absurd g (by simp)) (fun _ => ?_)
    refine Exists.intro (⟨7, U, [], ql, []⟩, ⟨0, qc, qp, ql, qz⟩, ()) (And.intro ⟨rfl, ⟨by rw [RdL.cells, List.append_nil, List.nil_append]; exact seesB_of (by kernel_rfl), rfl, rfl⟩, ⟨seesB_of (by kernel_rfl), hq1, hq2⟩, hf.1⟩ ?_)
    refine ifK (fun g => by have g : (!decide (ql = ql)) = true := g; simp at g) (fun _ => ?_)
    refine And.intro (by kernel_rfl) ?_
    refine ifK (fun g => by exact absurd v3 (by have g : (opI (repF fl y) != opI fl) = true := g; simpa using g)) (fun _ => ?_)
    refine ifK (fun g => by exact absurd v4 (by have g : (codeI (repF fl y) != bitsI .and .i64 y 15) = true := g; simpa using g)) (fun _ => ?_)
    refine ifK (fun g => by exact absurd (by have g : (bitsI .and .i64 (repF fl y) 32768 == 0) = true := g; simpa using g) v5) (fun _ => ?_)
    refine ifK (fun g => by exact absurd v6 (by have g : (bitsI .and .i64 (repF fl y) 512 != 0) = true := g; simpa using g)) (fun _ => ?_)
    refine ifK (fun g => by exact absurd v7 (by have g : (bitsI .and .i64 (repF fl y) 256 != bitsI .and .i64 fl 256) = true := g; simpa using g)) (fun _ => ?_)
    refine And.intro (by kernel_rfl) ?_
    refine And.intro (by kernel_rfl) ?_
    refine Exists.intro (ql.flatMap layQ.g) (And.intro (src_lay (pre := []) (post := []) layQ hsz (by rw [List.append_nil, List.nil_append]; kernel_rfl)) ?_)
    refine ifK (fun g => by exact absurd (Nat.eq_of_beq_eq_true g) h0) (fun _ => ?_)
    refine And.intro (by rw [hby, decide_eq_true (by omega), decide_eq_true (by omega)]; rfl) ?_
    refine ifK (fun _ => ?_) (fun g => by exact absurd g (by simp))
    refine ifK (fun _ => ?_) (fun g => by exact absurd v8 (by have g : (repF (repF fl y) y == repF fl y) = false := g; simpa using g))
    refine Exists.intro (⟨11, U, [], ql, []⟩, ⟨7, U, [], ql, []⟩, ()) (And.intro ⟨rfl, ⟨by rw [RdL.cells, List.append_nil, List.nil_append]; exact seesB_of (by kernel_rfl), rfl, rfl⟩, ⟨by rw [RdL.cells, List.append_nil, List.nil_append]; exact seesB_of (by kernel_rfl), rfl, rfl⟩, hf.1⟩ ?_)
    refine ifK (fun _ => ?_) (fun g => by have g : decide (ql = ql) = false := g; simp at g)
    exact ⟨_, _, _, rfl, wr_ge rfl⟩
end Go.Proofs.Ytcggcoijhdagnaa
/- DERIVED. Copies, bare answers: what the law MsgReplies calls. -/
namespace Go.Proofs.Ytcggcoijhdagnaa
open Go Go.RowKit
set_option maxRecDepth 100000 in
theorem rop_fn (x : Int) : ∃ r, FnS Try.prog 0 28 [.int .i64 x] .e 0 r ∧ ∃ H m wr, r = .ret (.int .i64 (opI x)) H m wr := by
  refine fn_sx mixed tbN [] Try.func28 (c := bodyOf Try.f28) (by kernel_rfl) ?_
  exact ⟨_, _, _, rfl⟩
set_option maxRecDepth 100000 in
theorem rcode_fn (x : Int) : ∃ r, FnS Try.prog 0 29 [.int .i64 x] .e 0 r ∧ ∃ H m wr, r = .ret (.int .i64 (codeI x)) H m wr := by
  refine fn_sx mixed tbN [] Try.func29 (c := bodyOf Try.f29) (by kernel_rfl) ?_
  exact ⟨_, _, _, rfl⟩
set_option maxRecDepth 100000 in
theorem rwith_fn (x y : Int) : ∃ r, FnS Try.prog 0 30 [.int .i64 x, .int .i64 y] .e 0 r ∧ ∃ H m wr, r = .ret (.int .i64 (withI x y)) H m wr := by
  refine fn_sx mixed tbN [] Try.func30 (c := bodyOf Try.f30) (by kernel_rfl) ?_
  exact ⟨_, _, _, rfl⟩
def ct_rop : Ct Try.prog 0 := Ct.int1 28 opI (fun x => by obtain ⟨r, h, H, m, wr, rfl⟩ := rop_fn x; exact ⟨H, m, wr, h⟩)
def ct_rcode : Ct Try.prog 0 := Ct.int1 29 codeI (fun x => by obtain ⟨r, h, H, m, wr, rfl⟩ := rcode_fn x; exact ⟨H, m, wr, h⟩)
def ct_rwith : Ct Try.prog 0 := Ct.int2 30 withI (fun x y => by obtain ⟨r, h, H, m, wr, rfl⟩ := rwith_fn x y; exact ⟨H, m, wr, h⟩)
noncomputable def inl_big8 : Ct Try.prog 0 := Ct.inl (tbOf mixed [ct_bigMs]) mixed [] 10 Try.f10 Try.func10 (bodyOf Try.f10) (by kernel_rfl)
noncomputable def inl_replyC : Ct Try.prog 0 := Ct.inl (tbOf mixed [ct_with]) mixed [6] 24 Try.f24 Try.func24 (bodyOf Try.f24) (by kernel_rfl)
noncomputable def inl_rreply : Ct Try.prog 0 := Ct.inl (tbOf mixed [ct_rwith]) mixed [0] 25 Try.f25 Try.func25 (bodyOf Try.f25) (by kernel_rfl)
noncomputable def inl_over0 : Ct Try.prog 0 := Ct.inl (tbOf mixed []) mixed [] 27 Try.f27 Try.func27 (bodyOf Try.f27) (by kernel_rfl)
noncomputable def ct_over : Ct Try.prog 0 := Ct.alt nilQ inl_over0 ct_overQ rfl
noncomputable def inl_keptR : Ct Try.prog 0 := Ct.inl (tbOf mixed []) mixed [6, 7, 8, 9] 57 Try.f57 Try.func57 (bodyOf Try.f57) (by kernel_rfl)
noncomputable def inl_keptM : Ct Try.prog 0 := Ct.inl (tbOf mixed [inl_sameM, inl_keptR]) mixed [6, 7, 8, 9] 18 Try.f18 Try.func18 (bodyOf Try.f18) (by kernel_rfl)
noncomputable def tbCp3 : Tb Try.prog 0 := tbOf mixed [inl_big8, ct_copyM, inl_replyC, inl_rreply, inl_sameM, ct_over, inl_keptM, ct_op, ct_code, ct_with, ct_rop, ct_rcode, ct_rwith, Ct.yes 19 awake8_calls]
end Go.Proofs.Ytcggcoijhdagnaa
/- DERIVED. Messages of few entries. -/
namespace Go.Proofs.Ytcggcoijhdagnaa
open Go Go.RowKit
/-- A message of few entries has short lists. -/
theorem few {m : MsL} {n : Int} {k : Nat} (hk : n ≤ k) (h1 : m.q.l.length ≤ 4398046511104) (h2 : m.an.l.length ≤ 4398046511104) (h3 : m.ns.l.length ≤ 4398046511104) (h4 : m.ar.l.length ≤ 4398046511104) {y : Int} (h : bigMs n y m = false) :
    m.q.l.length ≤ k ∧ m.an.l.length ≤ k ∧ m.ns.l.length ≤ k ∧ m.ar.l.length ≤ k := by
  unfold bigMs at h
  have h := (Bool.or_eq_false_iff.1 h).1
  have h := of_decide_eq_false h
  unfold lenI at h
  rw [wrapM (x := (m.q.l.length : Int) + (m.an.l.length : Int)) (by omega) (by omega)] at h
  rw [wrapM (x := (m.q.l.length : Int) + (m.an.l.length : Int) + (m.ns.l.length : Int)) (by omega) (by omega)] at h
  rw [wrapM (by omega) (by omega)] at h
  omega
end Go.Proofs.Ytcggcoijhdagnaa
