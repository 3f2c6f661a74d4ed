/- DERIVED. Texts put together: R8, R3, R4, R5, H1, R9, D10, D11, R10, R11. -/
import Derived.Test.YtmpaeabkdhjamaaZ12
import Derived.Test.YtmpaeabkdhjamaaZ13
import Derived.Test.YtmpaeabkdhjamaaZ17
/- DERIVED. Records: Read, Question. -/
namespace Go.Proofs.Ytmpaeabkdhjamaa
open Go Go.RowKit
/-- What reads are made of. -/
noncomputable def baseR8 : List (Ct Try.prog 0) := [ct_wreadY, ct_get16, ct_get32, ct_rdreadY]
noncomputable def inl_takes : Ct Try.prog 0 := Ct.inl (tbOf mixed baseR8) mixed [0] 72 Try.f72 Try.func72 (bodyOf Try.f72) (by kernel_rfl)
noncomputable def tbR8a : Tb Try.prog 0 := tbOf mixed (inl_takes :: baseR8)
noncomputable def inl_name : Ct Try.prog 0 := Ct.inl tbR8a mixed [0] 51 Try.f51 Try.func51 (bodyOf Try.f51) (by kernel_rfl)
noncomputable def inl_two : Ct Try.prog 0 := Ct.inl tbR8a mixed [0] 52 Try.f52 Try.func52 (bodyOf Try.f52) (by kernel_rfl)
noncomputable def inl_four : Ct Try.prog 0 := Ct.inl tbR8a mixed [0] 53 Try.f53 Try.func53 (bodyOf Try.f53) (by kernel_rfl)
noncomputable def tbR8 : Tb Try.prog 0 := tbOf mixed (inl_name :: inl_two :: inl_four :: baseR8)

/-- The number of so many bytes at a place. -/
def numAt (B : Bl) (k sz : Nat) : Nat := beN ((B.drop k).take sz)
def recBad (e p : Int) : Value := .tuple #[.agg #[.string ⟨#[]⟩, .int .i64 0, .int .i64 0, .int .i64 0, .string ⟨#[]⟩], .int .i64 0, .agg #[.int .i64 e, .int .i64 p]]
def recGood (s : Bl) (t c ttl : Nat) (d : Bs) (next : Int) : Value := .tuple #[.agg #[str s, .int .i64 t, .int .i64 c, .int .i64 (if ttl > 2147483647 then 0 else (ttl : Int)), str d], .int .i64 next, .agg #[.int .i64 0, .int .i64 0]]
def queBad (e p : Int) : Value := .tuple #[.agg #[.string ⟨#[]⟩, .int .i64 0, .int .i64 0], .int .i64 0, .agg #[.int .i64 e, .int .i64 p]]
def queGood (s : Bl) (t c : Nat) (next : Int) : Value := .tuple #[.agg #[str s, .int .i64 t, .int .i64 c], .int .i64 next, .agg #[.int .i64 0, .int .i64 0]]
/-- What rec.Read tells. -/
inductive recQ (B : Bl) (a : Int) : Value → Prop
  | name {r : RR} (h : rdOk B a r) (he : r.e ≠ 0) : recQ B a (recBad r.e r.pos)
  | short {r : RR} {k : Nat} (h : rdOk B a r) (he : r.e = 0) (hk : r.next = k) (hl : B.length < k + 10) : recQ B a (recBad 4 (B.length : Int))
  | data {r : RR} {k : Nat} {y : Bs × Int × Int} (h : rdOk B a r) (he : r.e = 0) (hk : r.next = k) (hl : k + 10 ≤ B.length) (hy : rdQ B (k + 10 : Nat) (numAt B (k + 8) 2) (numAt B k 2) y) (hf : y.2.1 ≠ 0) : recQ B a (recBad y.2.1 y.2.2)
  | fine {r : RR} {k : Nat} {y : Bs × Int × Int} (h : rdOk B a r) (he : r.e = 0) (hk : r.next = k) (hl : k + 10 ≤ B.length) (hy : rdQ B (k + 10 : Nat) (numAt B (k + 8) 2) (numAt B k 2) y) (hf : y.2.1 = 0) : recQ B a (recGood r.s (numAt B k 2) (numAt B (k + 2) 2) (numAt B (k + 4) 4) y.1 ((k + 10 : Nat) + (numAt B (k + 8) 2 : Int)))
theorem recQ.det {B : Bl} {a : Int} {v v' : Value} (h : recQ B a v) (k : recQ B a v') : v = v' := by
  cases h with
  | name h he => cases k with
    | name h' => rw [rdOk_det h h']
    | short h' he' => rw [rdOk_det h h'] at he; exact absurd he' he
    | data h' he' => rw [rdOk_det h h'] at he; exact absurd he' he
    | fine h' he' => rw [rdOk_det h h'] at he; exact absurd he' he
  | short h he hk hl => cases k with
    | name h' he' => rw [rdOk_det h h'] at he; exact absurd he he'
    | short => rfl
    | data h' _ hk' hl' => rw [rdOk_det h h', hk'] at hk; omega
    | fine h' _ hk' hl' => rw [rdOk_det h h', hk'] at hk; omega
  | data h he hk hl hy hf => cases k with
    | name h' he' => rw [rdOk_det h h'] at he; exact absurd he he'
    | short h' _ hk' hl' => rw [rdOk_det h h', hk'] at hk; omega
    | data h' _ hk' _ hy' => rw [rdOk_det h h', hk'] at hk; have hk := Int.ofNat.inj hk; subst hk; rw [rdQ_det hy hy']
    | fine h' _ hk' _ hy' hf' => rw [rdOk_det h h', hk'] at hk; have hk := Int.ofNat.inj hk; subst hk; rw [rdQ_det hy hy'] at hf; exact absurd hf' hf
  | fine h he hk hl hy hf => cases k with
    | name h' he' => rw [rdOk_det h h'] at he; exact absurd he he'
    | short h' _ hk' hl' => rw [rdOk_det h h', hk'] at hk; omega
    | data h' _ hk' _ hy' hf' => rw [rdOk_det h h', hk'] at hk; have hk := Int.ofNat.inj hk; subst hk; rw [rdQ_det hy hy'] at hf; exact absurd hf hf'
    | fine h' _ hk' _ hy' => have e := rdOk_det h h'; subst e; rw [hk'] at hk; have hk := Int.ofNat.inj hk; subst hk; rw [rdQ_det hy hy']
/-- What rec.Question tells. -/
inductive queQ (B : Bl) (a : Int) : Value → Prop
  | name {r : RR} (h : rdOk B a r) (he : r.e ≠ 0) : queQ B a (queBad r.e r.pos)
  | short {r : RR} {k : Nat} (h : rdOk B a r) (he : r.e = 0) (hk : r.next = k) (hl : B.length < k + 4) : queQ B a (queBad 4 (B.length : Int))
  | fine {r : RR} {k : Nat} (h : rdOk B a r) (he : r.e = 0) (hk : r.next = k) (hl : k + 4 ≤ B.length) : queQ B a (queGood r.s (numAt B k 2) (numAt B (k + 2) 2) ((k + 4 : Nat) : Int))
theorem queQ.det {B : Bl} {a : Int} {v v' : Value} (h : queQ B a v) (k : queQ B a v') : v = v' := by
  cases h with
  | name h he => cases k with
    | name h' => rw [rdOk_det h h']
    | short h' he' => rw [rdOk_det h h'] at he; exact absurd he' he
    | fine h' he' => rw [rdOk_det h h'] at he; exact absurd he' he
  | short h he hk hl => cases k with
    | name h' he' => rw [rdOk_det h h'] at he; exact absurd he he'
    | short => rfl
    | fine h' _ hk' hl' => rw [rdOk_det h h', hk'] at hk; omega
  | fine h he hk hl => cases k with
    | name h' he' => rw [rdOk_det h h'] at he; exact absurd he he'
    | short h' _ hk' hl' => rw [rdOk_det h h', hk'] at hk; omega
    | fine h' _ hk' => have e := rdOk_det h h'; subst e; rw [hk'] at hk; have hk := Int.ofNat.inj hk; subst hk; rfl

set_option maxRecDepth 1000000 in
set_option maxHeartbeats 4000000 in
theorem question_fn (l : Bl) (o n c : Nat) (i : Int) (h : o + n ≤ l.length) (hn : n ≤ 1000000) (hcap : c = U ∨ n ≤ c ∧ c ≤ 9223372036854775807) : ∃ r, FnS Try.prog 0 29 [.slice (some ⟨0, o, none⟩) n c, .int .i64 i] (heap 1 [(0, .win (l.map byV) 1)]) 1 r ∧ ∃ v H m wr, r = .ret v H m wr ∧ (∀ k ∈ wr, 1 ≤ k) ∧ plainV 8 v = true ∧ queQ ((l.drop o).take n) i v := by
  have hB := lenB h
  have htake : ∀ j m : Nat, j + m ≤ n → numAt ((l.drop o).take n) j m = beN ((l.drop (o + j)).take m) := fun j m hjm => by unfold numAt; rw [List.drop_take, List.take_take, List.drop_drop, Nat.min_eq_left (by omega)]
  refine fn_sx mixed tbR8 [0] Try.func29 (c := bodyOf Try.f29) (by kernel_rfl) ?_
  refine And.intro ?_ ?_
  · kernel_rfl
  refine Exists.intro (⟨0, o, n, c, l⟩, i) (And.intro ⟨rfl, ⟨rfl, h⟩, (by show n ≤ _; omega), hcap⟩ ?_)
  intro r hr
  obtain ⟨s, nx, e, pos⟩ := r
  have hr : rdOk ((l.drop o).take n) i ⟨s, nx, e, pos⟩ := hr
  refine ifK (fun g => ?_) (fun g => ?_)
  · have g : e ≠ 0 := by simpa using g
    have gz : (e == 0) = true → False := fun q => g (by simpa using q)
    refine ifK (fun q => (gz q).elim) (fun _ => ?_)
    refine ifK (fun q => (gz q).elim) (fun _ => ?_)
    refine ifK (fun _ => ?_) (fun q => absurd q (by simpa using g))
    refine And.intro ?_ ?_
    · kernel_rfl
    exact ⟨queBad e pos, _, _, _, rfl, wr_ge rfl, rfl, .name hr g⟩
  have g : e = 0 := by simpa using g
  subst g
  obtain ⟨q1, q2, _⟩ := hr.fine.2 rfl
  have q1 : 0 ≤ nx := q1
  have q2 : nx ≤ (((l.drop o).take n).length : Int) := q2
  rw [hB] at q2
  obtain ⟨k, rfl⟩ := Int.eq_ofNat_of_zero_le q1
  refine And.intro ?_ ?_
  · kernel_rfl
  refine Exists.intro (⟨0, o, n, c, l⟩, ((k + 0 : Nat) : Int)) (And.intro ⟨rfl, ⟨rfl, h⟩, (by show n ≤ _; omega)⟩ ?_)
  refine ifK (fun q => absurd q (by simp only [Bool.or_eq_true, decide_eq_true_eq]; omega)) (fun _ => ?_)
  refine ifK (fun s0 => ?_) (fun s0 => ?_)
  rotate_left
  · have s0 : ¬ k + 2 ≤ n := fun e => by rw [show Nat.ble (((k + 0 : Nat) : Int).toNat + 2) n = true from Nat.ble_eq_true_of_le e] at s0; cases s0
    refine And.intro ?_ ?_
    · kernel_rfl
    exact ⟨queBad 4 (n : Int), _, _, _, rfl, wr_ge rfl, rfl, by have := queQ.short hr rfl rfl (show ((l.drop o).take n).length < _ by rw [hB]; omega); rw [hB] at this; exact this⟩
  have s0 : k + 2 ≤ n := Nat.le_of_ble_eq_true s0
  refine And.intro ?_ ?_
  · kernel_rfl
  refine Exists.intro (⟨0, o, n, c, l⟩, ((k + 2 : Nat) : Int)) (And.intro ⟨rfl, ⟨rfl, h⟩, (by show n ≤ _; omega)⟩ ?_)
  refine ifK (fun q => absurd q (by simp only [Bool.or_eq_true, decide_eq_true_eq]; omega)) (fun _ => ?_)
  refine ifK (fun s2 => ?_) (fun s2 => ?_)
  rotate_left
  · have s2 : ¬ k + 4 ≤ n := fun e => by rw [show Nat.ble (((k + 2 : Nat) : Int).toNat + 2) n = true from Nat.ble_eq_true_of_le e] at s2; cases s2
    refine And.intro ?_ ?_
    · kernel_rfl
    exact ⟨queBad 4 (n : Int), _, _, _, rfl, wr_ge rfl, rfl, by have := queQ.short hr rfl rfl (show ((l.drop o).take n).length < _ by rw [hB]; omega); rw [hB] at this; exact this⟩
  have s2 : k + 4 ≤ n := Nat.le_of_ble_eq_true s2
  refine And.intro ?_ ?_
  · kernel_rfl
  have fin := queQ.fine hr rfl rfl (show k + 4 ≤ ((l.drop o).take n).length by rw [hB]; omega)
  rw [htake k 2 (by omega), htake (k + 2) 2 (by omega)] at fin
  exact ⟨_, _, _, _, rfl, wr_ge rfl, rfl, fin⟩
set_option maxRecDepth 1000000 in
set_option maxHeartbeats 4000000 in
theorem recread_fn (l : Bl) (o n c : Nat) (i : Int) (h : o + n ≤ l.length) (hn : n ≤ 1000000) (hcap : c = U ∨ n ≤ c ∧ c ≤ 9223372036854775807) : ∃ r, FnS Try.prog 0 27 [.slice (some ⟨0, o, none⟩) n c, .int .i64 i] (heap 1 [(0, .win (l.map byV) 1)]) 1 r ∧ ∃ v H m wr, r = .ret v H m wr ∧ (∀ k ∈ wr, 1 ≤ k) ∧ plainV 8 v = true ∧ recQ ((l.drop o).take n) i v := by
  have hB := lenB h
  have htake : ∀ j m : Nat, j + m ≤ n → numAt ((l.drop o).take n) j m = beN ((l.drop (o + j)).take m) := fun j m hjm => by unfold numAt; rw [List.drop_take, List.take_take, List.drop_drop, Nat.min_eq_left (by omega)]
  refine fn_sx mixed tbR8 [0] Try.func27 (c := bodyOf Try.f27) (by kernel_rfl) ?_
  refine And.intro ?_ ?_
  · kernel_rfl
  refine Exists.intro (⟨0, o, n, c, l⟩, i) (And.intro ⟨rfl, ⟨rfl, h⟩, (by show n ≤ _; omega), hcap⟩ ?_)
  intro r hr
  obtain ⟨s, nx, e, pos⟩ := r
  have hr : rdOk ((l.drop o).take n) i ⟨s, nx, e, pos⟩ := hr
  refine ifK (fun g => ?_) (fun g => ?_)
  · have g : e ≠ 0 := by simpa using g
    have gz : (e == 0) = true → False := fun q => g (by simpa using q)
    refine ifK (fun q => (gz q).elim) (fun _ => ?_)
    refine ifK (fun q => (gz q).elim) (fun _ => ?_)
    refine ifK (fun q => (gz q).elim) (fun _ => ?_)
    refine ifK (fun q => (gz q).elim) (fun _ => ?_)
    refine ifK (fun _ => ?_) (fun q => absurd q (by simpa using g))
    refine And.intro ?_ ?_
    · kernel_rfl
    exact ⟨recBad e pos, _, _, _, rfl, wr_ge rfl, rfl, .name hr g⟩
  have g : e = 0 := by simpa using g
  subst g
  obtain ⟨q1, q2, _⟩ := hr.fine.2 rfl
  have q1 : 0 ≤ nx := q1
  have q2 : nx ≤ (((l.drop o).take n).length : Int) := q2
  rw [hB] at q2
  obtain ⟨k, rfl⟩ := Int.eq_ofNat_of_zero_le q1
  refine And.intro ?_ ?_
  · kernel_rfl
  refine Exists.intro (⟨0, o, n, c, l⟩, ((k + 0 : Nat) : Int)) (And.intro ⟨rfl, ⟨rfl, h⟩, (by show n ≤ _; omega)⟩ ?_)
  refine ifK (fun q => absurd q (by simp only [Bool.or_eq_true, decide_eq_true_eq]; omega)) (fun _ => ?_)
  refine ifK (fun s0 => ?_) (fun s0 => ?_)
  rotate_left
  · have s0 : ¬ k + 2 ≤ n := fun e => by rw [show Nat.ble (((k + 0 : Nat) : Int).toNat + 2) n = true from Nat.ble_eq_true_of_le e] at s0; cases s0
    refine And.intro ?_ ?_
    · kernel_rfl
    exact ⟨recBad 4 (n : Int), _, _, _, rfl, wr_ge rfl, rfl, by have := recQ.short hr rfl rfl (show ((l.drop o).take n).length < _ by rw [hB]; omega); rw [hB] at this; exact this⟩
  have s0 : k + 2 ≤ n := Nat.le_of_ble_eq_true s0
  refine And.intro ?_ ?_
  · kernel_rfl
  refine Exists.intro (⟨0, o, n, c, l⟩, ((k + 2 : Nat) : Int)) (And.intro ⟨rfl, ⟨rfl, h⟩, (by show n ≤ _; omega)⟩ ?_)
  refine ifK (fun q => absurd q (by simp only [Bool.or_eq_true, decide_eq_true_eq]; omega)) (fun _ => ?_)
  refine ifK (fun s2 => ?_) (fun s2 => ?_)
  rotate_left
  · have s2 : ¬ k + 4 ≤ n := fun e => by rw [show Nat.ble (((k + 2 : Nat) : Int).toNat + 2) n = true from Nat.ble_eq_true_of_le e] at s2; cases s2
    refine And.intro ?_ ?_
    · kernel_rfl
    exact ⟨recBad 4 (n : Int), _, _, _, rfl, wr_ge rfl, rfl, by have := recQ.short hr rfl rfl (show ((l.drop o).take n).length < _ by rw [hB]; omega); rw [hB] at this; exact this⟩
  have s2 : k + 4 ≤ n := Nat.le_of_ble_eq_true s2
  refine And.intro ?_ ?_
  · kernel_rfl
  refine Exists.intro (⟨0, o, n, c, l⟩, ((k + 4 : Nat) : Int)) (And.intro ⟨rfl, ⟨rfl, h⟩, (by show n ≤ _; omega)⟩ ?_)
  refine ifK (fun q => absurd q (by simp only [Bool.or_eq_true, decide_eq_true_eq]; omega)) (fun _ => ?_)
  refine ifK (fun s4 => ?_) (fun s4 => ?_)
  rotate_left
  · have s4 : ¬ k + 8 ≤ n := fun e => by rw [show Nat.ble (((k + 4 : Nat) : Int).toNat + 4) n = true from Nat.ble_eq_true_of_le e] at s4; cases s4
    refine And.intro ?_ ?_
    · kernel_rfl
    exact ⟨recBad 4 (n : Int), _, _, _, rfl, wr_ge rfl, rfl, by have := recQ.short hr rfl rfl (show ((l.drop o).take n).length < _ by rw [hB]; omega); rw [hB] at this; exact this⟩
  have s4 : k + 8 ≤ n := Nat.le_of_ble_eq_true s4
  refine And.intro ?_ ?_
  · kernel_rfl
  refine Exists.intro (⟨0, o, n, c, l⟩, ((k + 8 : Nat) : Int)) (And.intro ⟨rfl, ⟨rfl, h⟩, (by show n ≤ _; omega)⟩ ?_)
  refine ifK (fun q => absurd q (by simp only [Bool.or_eq_true, decide_eq_true_eq]; omega)) (fun _ => ?_)
  refine ifK (fun s8 => ?_) (fun s8 => ?_)
  rotate_left
  · have s8 : ¬ k + 10 ≤ n := fun e => by rw [show Nat.ble (((k + 8 : Nat) : Int).toNat + 2) n = true from Nat.ble_eq_true_of_le e] at s8; cases s8
    refine And.intro ?_ ?_
    · kernel_rfl
    exact ⟨recBad 4 (n : Int), _, _, _, rfl, wr_ge rfl, rfl, by have := recQ.short hr rfl rfl (show ((l.drop o).take n).length < _ by rw [hB]; omega); rw [hB] at this; exact this⟩
  have s8 : k + 10 ≤ n := Nat.le_of_ble_eq_true s8
  refine And.intro ?_ ?_
  · kernel_rfl
  refine Exists.intro (⟨0, o, n, c, l⟩, ((k + 10 : Nat) : Int), (beN ((l.drop (o + (k + 8))).take 2) : Int), (beN ((l.drop (o + k)).take 2) : Int)) (And.intro ⟨rfl, ⟨rfl, h⟩, (by show n ≤ _; omega), hcap⟩ ?_)
  intro y hy
  have hy : rdQ ((l.drop o).take n) ((k + 10 : Nat) : Int) (beN ((l.drop (o + (k + 8))).take 2) : Int) (beN ((l.drop (o + k)).take 2) : Int) y := hy
  have hy2 := hy
  rw [← htake (k + 8) 2 (by omega), ← htake k 2 (by omega)] at hy2
  have hl : k + 10 ≤ ((l.drop o).take n).length := by rw [hB]; omega
  refine ifK (fun g => ?_) (fun g => ?_)
  · have g : y.2.1 ≠ 0 := by simpa using g
    refine And.intro ?_ ?_
    · kernel_rfl
    exact ⟨recBad y.2.1 y.2.2, _, _, _, rfl, wr_ge rfl, rfl, .data hr rfl rfl hl hy2 g⟩
  have g : y.2.1 = 0 := by simpa using g
  have fin := recQ.fine hr rfl rfl hl hy2 g
  have hy3 := (hy.fine.2 g).2.2.2
  rw [hB] at hy3
  rw [htake k 2 (by omega), htake (k + 2) 2 (by omega), htake (k + 4) 4 (by omega), htake (k + 8) 2 (by omega)] at fin
  have ew : IntKind.i64.wrap (((k + 10 : Nat) : Int) + (beN ((l.drop (o + (k + 8))).take 2) : Int)) = ((k + 10 : Nat) : Int) + (beN ((l.drop (o + (k + 8))).take 2) : Int) := wrapM (by omega) (by omega)
  unfold recGood at fin
  refine ifK (fun g2 => ?_) (fun g2 => ?_)
  · have g2 : (beN ((l.drop (o + (k + 4))).take 4) : Int) > 2147483647 := of_decide_eq_true g2
    rw [if_pos (by omega)] at fin
    refine And.intro ?_ ?_
    · kernel_rfl
    rw [← ew] at fin
    exact ⟨_, _, _, _, rfl, wr_ge rfl, rfl, fin⟩
  · have g2 : ¬ (beN ((l.drop (o + (k + 4))).take 4) : Int) > 2147483647 := of_decide_eq_false g2
    rw [if_neg (by omega)] at fin
    refine And.intro ?_ ?_
    · kernel_rfl
    rw [← ew] at fin
    exact ⟨_, _, _, _, rfl, wr_ge rfl, rfl, fin⟩
noncomputable def cq_question : CtQ Try.prog :=
  { f := 29, X := RdB × Int, pre := fun x a H _ => a = [x.1.sl, .int .i64 x.2] ∧ x.1.at H ∧ x.1.n ≤ 1000000 ∧ (x.1.c = U ∨ x.1.n ≤ x.1.c ∧ x.1.c ≤ 9223372036854775807), Q := fun x v => queQ x.1.B x.2 v,
    ok := fun ⟨⟨b, o, n, c, l⟩, i⟩ a H m ⟨h1, h2, h3, h4⟩ => by
      subst h1
      obtain ⟨r, hF, v, H', m', wr, rfl, hw, hp, hq⟩ := question_fn l o n c i h2.2 h3 h4
      exact ⟨v, callOK_reads [b] hF hw dup_one (.cons _ _ _ _ (.sl _ _ _ _ _ rfl) (plain_rl rfl)) (rd_blocks h2.1 (byV_plain l)) hp, hq⟩,
    uniq := fun ⟨x, i⟩ ⟨y, j⟩ a H m ⟨h1, h2, _⟩ ⟨k1, k2, _⟩ => by
      rw [h1] at k1
      simp only [List.cons.injEq, Value.int.injEq, true_and, and_true] at k1
      rw [RdB.uniq k1.1 h2 k2, k1.2] }
noncomputable def cq_recread : CtQ Try.prog :=
  { f := 27, X := RdB × Int, pre := fun x a H _ => a = [x.1.sl, .int .i64 x.2] ∧ x.1.at H ∧ x.1.n ≤ 1000000 ∧ (x.1.c = U ∨ x.1.n ≤ x.1.c ∧ x.1.c ≤ 9223372036854775807), Q := fun x v => recQ x.1.B x.2 v,
    ok := fun ⟨⟨b, o, n, c, l⟩, i⟩ a H m ⟨h1, h2, h3, h4⟩ => by
      subst h1
      obtain ⟨r, hF, v, H', m', wr, rfl, hw, hp, hq⟩ := recread_fn l o n c i h2.2 h3 h4
      exact ⟨v, callOK_reads [b] hF hw dup_one (.cons _ _ _ _ (.sl _ _ _ _ _ rfl) (plain_rl rfl)) (rd_blocks h2.1 (byV_plain l)) hp, hq⟩,
    uniq := fun ⟨x, i⟩ ⟨y, j⟩ a H m ⟨h1, h2, _⟩ ⟨k1, k2, _⟩ => by
      rw [h1] at k1
      simp only [List.cons.injEq, Value.int.injEq, true_and, and_true] at k1
      rw [RdB.uniq k1.1 h2 k2, k1.2] }
end Go.Proofs.Ytmpaeabkdhjamaa
/- DERIVED. Records: Same. -/
namespace Go.Proofs.Ytmpaeabkdhjamaa
open Go Go.RowKit
def lowEq (x y : RcX) : Bool := x.low.n.data.toList == y.low.n.data.toList && (x.low.t == y.low.t && (x.low.c == y.low.c && (x.low.ttl == y.low.ttl && (x.low.d.data.toList == y.low.d.data.toList && true))))
/-- Are two records the same? -/
def sameR (x y : RcX) : Bool := (recC x == 0) && ((recC y == 0) && lowEq x y)
set_option maxRecDepth 100000 in
theorem sameR_fn (x y : RcX) (hx : x.ok = true) (hy : y.ok = true) : ∃ r, FnS Try.prog 0 13 [x.v, y.v] .e 0 r ∧ ∃ H k wr, r = .ret (.bool (sameR x y)) H k wr := by
  refine fn_sx mixed tbR3 [] Try.func13 (c := bodyOf Try.f13) (by kernel_rfl) ?_
  refine And.intro ?_ ?_
  · kernel_rfl
  unfold sameR
  refine And.intro hx ?_
  refine ifK (fun h1 => ?_) (fun h1 => ?_)
  · rw [show (recC x == 0) = true from h1]
    refine And.intro hy ?_
    refine ifK (fun h2 => ?_) (fun h2 => ?_)
    · rw [show (recC y == 0) = true from h2]
      refine And.intro hx (And.intro hy (And.intro ?_ ?_))
      · kernel_rfl
      exact ⟨_, _, _, rfl⟩
    · rw [show (recC y == 0) = false from h2]; exact ⟨_, _, _, rfl⟩
  · rw [show (recC x == 0) = false from h1]; exact ⟨_, _, _, rfl⟩
theorem recC_zero {x : RcX} (h : recC x = 0) : (labels (bs x.n)).2 = 0 ∧ numB x.t 65535 = true ∧ numB x.c 65535 = true ∧ numB x.ttl 2147483647 = true ∧ checkD x.t (bs x.d) = 0 := by
  unfold recC at h
  split at h
  · rename_i h1; exact absurd h h1
  · rename_i h1
    split at h
    · rename_i h2
      simp only [Bool.and_eq_true] at h2
      exact ⟨by simpa using h1, h2.1.1, h2.1.2, h2.2, h⟩
    · cases h
theorem low_n (x : RcX) : x.low.n.data.toList = lower (bs x.n) := by simp [RcX.low]
theorem low_d (x : RcX) : x.low.d.data.toList = lowerD x.t (bs x.d) := by simp [RcX.low]
theorem lowEq_iff (x y : RcX) : lowEq x y = true ↔ lower (bs x.n) = lower (bs y.n) ∧ x.t = y.t ∧ x.c = y.c ∧ lowerD x.t (bs x.d) = lowerD y.t (bs y.d) := by
  unfold lowEq
  rw [low_n, low_n, low_d, low_d]
  simp only [Bool.and_eq_true, beq_iff_eq, Bool.and_true]
  exact ⟨fun ⟨a, b, c, _, d⟩ => ⟨a, b, c, d⟩, fun ⟨a, b, c, d⟩ => ⟨a, b, c, rfl, d⟩⟩
set_option maxRecDepth 100000 in
theorem rsameR_fn (x y : RcX) (hx : x.ok = true) (hy : y.ok = true) : ∃ r, FnS Try.prog 0 14 [x.v, y.v] .e 0 r ∧ ∃ H k wr, r = .ret (.bool (sameR x y)) H k wr := by
  obtain ⟨xn, xd⟩ := RcX.ok1 hx
  obtain ⟨yn, yd⟩ := RcX.ok1 hy
  have a1 : shortB x.n = true := shortB_of (by omega)
  have a2 : shortB y.n = true := shortB_of (by omega)
  refine fn_sx mixed tbR3 [] Try.func14 (c := bodyOf Try.f14) (by kernel_rfl) ?_
  unfold sameR
  refine And.intro hx ?_
  refine ifK (fun h1 => ?_) (fun h1 => ?_)
  · rw [show (recC x == 0) = false by simpa using h1]; exact ⟨_, _, _, rfl⟩
  have h1 : recC x = 0 := by simpa using h1
  rw [show (recC x == 0) = true by simpa using h1]
  refine And.intro hy ?_
  refine ifK (fun h2 => ?_) (fun h2 => ?_)
  · rw [show (recC y == 0) = false by simpa using h2]; exact ⟨_, _, _, rfl⟩
  have h2 : recC y = 0 := by simpa using h2
  rw [show (recC y == 0) = true by simpa using h2]
  simp only [Bool.true_and]
  obtain ⟨x1, _, _, _, _⟩ := recC_zero h1
  obtain ⟨y1, _, _, _, _⟩ := recC_zero h2
  refine And.intro ?_ ?_
  · kernel_rfl
  refine ifK (fun h3 => ?_) (fun h3 => ?_)
  · have h3 : x.t = y.t := by simpa using h3
    refine ifK (fun h4 => ?_) (fun h4 => ?_)
    · have h4 : x.c = y.c := by simpa using h4
      refine And.intro (by rw [a1, a2]; rfl) ?_
      refine ifK (fun h5 => ?_) (fun h5 => ?_)
      · have h5 : lower (bs x.n) = lower (bs y.n) := by unfold sameNames at h5; exact (of_decide_eq_true h5).2.2
        refine And.intro (size8' xd) (And.intro (size8' yd) ?_)
        have e : lowEq x y = ((⟨(lowerD x.t (bs x.d)).toArray⟩ : ByteArray).data.toList == (⟨(lowerD y.t (bs y.d)).toArray⟩ : ByteArray).data.toList) := by
          rw [Bool.eq_iff_iff, lowEq_iff]
          simp [h3, h4, h5]
        rw [e]; exact ⟨_, _, _, rfl⟩
      · have e : lowEq x y = false := by
          rw [Bool.eq_false_iff]
          intro e
          rw [lowEq_iff] at e
          unfold sameNames at h5
          exact (of_decide_eq_false h5) ⟨x1, y1, e.1⟩
        rw [e]; exact ⟨_, _, _, rfl⟩
    · have h4 : ¬ x.c = y.c := by simpa using h4
      have e : lowEq x y = false := by
        rw [Bool.eq_false_iff]
        intro e
        rw [lowEq_iff] at e
        exact h4 e.2.2.1
      rw [e]; exact ⟨_, _, _, rfl⟩
  · have h3 : ¬ x.t = y.t := by simpa using h3
    have e : lowEq x y = false := by
      rw [Bool.eq_false_iff]
      intro e
      rw [lowEq_iff] at e
      exact h3 e.2.1
    rw [e]; exact ⟨_, _, _, rfl⟩
def okRR (x : RcX × RcX) : Bool := x.1.ok && x.2.ok
def ct_recSame : Ct Try.prog 0 := Ct.sh 13 mtRR (fun x => [x.1.v, x.2.v]) mtRR_ok okRR (fun x => .bool (sameR x.1 x.2)) (fun _ => rfl) (fun _ => rfl) (fun x hx => by
  simp only [okRR, Bool.and_eq_true] at hx
  obtain ⟨r, h, H, m, wr, rfl⟩ := sameR_fn x.1 x.2 hx.1 hx.2; exact ⟨H, m, wr, h⟩)
def ct_rrecSame : Ct Try.prog 0 := Ct.sh 14 mtRR (fun x => [x.1.v, x.2.v]) mtRR_ok okRR (fun x => .bool (sameR x.1 x.2)) (fun _ => rfl) (fun _ => rfl) (fun x hx => by
  simp only [okRR, Bool.and_eq_true] at hx
  obtain ⟨r, h, H, m, wr, rfl⟩ := rsameR_fn x.1 x.2 hx.1 hx.2; exact ⟨H, m, wr, h⟩)

/-- How records lie. -/
def RcX.g (x : RcX) : List Value := [.string x.n, .int .i64 x.t, .int .i64 x.c, .int .i64 x.ttl, .string x.d]
def layR : Lay RcX where
  g := RcX.g
  k := 5
  t := 23
  len _ := rfl
  pos := by decide
  plain _ := rfl
  inj x y h := by
    obtain ⟨n, t, c, l, d⟩ := x
    obtain ⟨n', t', c', l', d'⟩ := y
    simp only [RcX.g, List.cons.injEq, Value.string.injEq, Value.int.injEq, true_and, and_true] at h
    obtain ⟨rfl, rfl, rfl, rfl, rfl⟩ := h; rfl
/-- Is a record big? -/
def bigR (n : Int) (x : RcX) : Bool := decide ((x.n.data.size : Int) > n) || decide ((x.d.data.size : Int) > n)
noncomputable def tbR4 : Tb Try.prog 0 := tbOf mixed []
end Go.Proofs.Ytmpaeabkdhjamaa
/- DERIVED. Records: are some big? -/
namespace Go.Proofs.Ytmpaeabkdhjamaa
open Go Go.RowKit
def bigS (a b : List Value) (l : List RcX) (c : Nat) (n : Int) (i : Nat) (f : Nat → Option Value) : Fs := ⟨slots 6 [(0, .slice (some ⟨0, a.length, none⟩) l.length c), (1, .int .i64 n), (5, .int .i64 i)] f, heap 1 [(0, .win (a ++ l.flatMap layR.g ++ b) layR.k)], 1, [], []⟩
set_option maxRecDepth 100000 in
theorem bigRecs_fn (a b : List Value) (l : List RcX) (c : Nat) (n : Int) (ha : plainL a = true) (hb : plainL b = true) (hl : l.length ≤ 1000000000) : ∃ r, FnS Try.prog 0 10 [.slice (some ⟨0, a.length, none⟩) l.length c, .int .i64 n] (heap 1 [(0, .win (a ++ l.flatMap layR.g ++ b) layR.k)]) 1 r ∧ ∃ H m wr, r = .ret (.bool (l.any (bigR n))) H m wr ∧ ∀ k ∈ wr, 1 ≤ k := by
  have hplain : plainL (a ++ l.flatMap layR.g ++ b) = true := by rw [plainL_append, plainL_append, ha, hb, flat_plain layR.g layR.plain]; rfl
  have hsz : (Try.prog.types[23]).size = 5 := by kernel_rfl
  refine fn_sx mixed tbR4 [0] Try.func10 (c := bodyOf Try.f10) (by kernel_rfl) ?_
  refine loop_goX (bigS a b l c n) (fun i => l.length - i) (fun i => i ≤ l.length ∧ l.any (bigR n) = (l.drop i).any (bigR n)) 0 ⟨Nat.zero_le _, rfl⟩ (rc_slots [] rfl rfl rfl (fun l e => by cases e) (by decide) (by decide) rfl rfl (wr_of rfl) ⟨⟨_, rfl, .sl _ _ _ _ _ rfl⟩, ⟨_, rfl, .int _ _⟩, ⟨_, rfl, .int _ _⟩, trivial⟩ ⟨⟨by decide, _, rfl, .sameW hplain⟩, trivial⟩ .nil) ?_
  rintro i f ⟨hi, heq⟩
  refine sx_ok tbR4 [0] 1 _ none mixed _ _ _ ?_
  refine ifK (fun h1 => ?_) (fun h1 => ?_)
  · have h1 : i < l.length := by have := of_decide_eq_true h1; omega
    have hst : (l.drop i).any (bigR n) = (bigR n l[i] || (l.drop (i + 1)).any (bigR n)) := by rw [List.drop_eq_getElem_cons h1]; rfl
    rw [hst] at heq
    have c0 := RdL.cell layR a b l i 0 h1 (by decide)
    have c4 := RdL.cell layR a b l i 4 h1 (by decide)
    refine ifK (fun _ => ?_) (fun h2 => absurd h2 (by simp [inI]; omega))
    refine Exists.intro l[i].n (And.intro (by rw [hsz, Int.toNat_natCast]; exact c0) ?_)
    refine ifK (fun h2 => ?_) (fun h2 => ?_)
    · have e : l.any (bigR n) = true := by rw [heq]; unfold bigR; rw [h2]; rfl
      refine And.intro rfl (rc_end (rc_slots [] rfl rfl rfl (fun l e => by cases e) (by decide) (by decide) rfl rfl (wr_of rfl) (d := 6) (d2 := 0) (lv := [(4, .bool true)]) (bs := []) (W := []) (m := 1) (df := []) ⟨⟨_, rfl, plain_rv 8 rfl⟩, trivial⟩ trivial .nil) (fun f => ?_))
      rw [e]; exact ⟨_, _, _, rfl, wr_ge rfl⟩
    · refine ifK (fun _ => ?_) (fun h3 => absurd h3 (by simp [inI]; omega))
      refine Exists.intro l[i].d (And.intro (by rw [hsz, Int.toNat_natCast]; exact c4) ?_)
      refine ifK (fun h3 => ?_) (fun h3 => ?_)
      · have e : l.any (bigR n) = true := by rw [heq]; unfold bigR; rw [h3]; simp
        refine And.intro rfl (rc_end (rc_slots [] rfl rfl rfl (fun l e => by cases e) (by decide) (by decide) rfl rfl (wr_of rfl) (d := 6) (d2 := 0) (lv := [(4, .bool true)]) (bs := []) (W := []) (m := 1) (df := []) ⟨⟨_, rfl, plain_rv 8 rfl⟩, trivial⟩ trivial .nil) (fun f => ?_))
        rw [e]; exact ⟨_, _, _, rfl, wr_ge rfl⟩
      · refine ⟨i + 1, ⟨h1, ?_⟩, by omega, rc_slots [] rfl rfl rfl (fun l e => by cases e) (by decide) (by decide) rfl rfl (wr_of rfl) ⟨⟨_, rfl, .sl _ _ _ _ _ rfl⟩, ⟨_, rfl, .int _ _⟩, slot_int rfl (by rw [wrapN (by omega) (by omega)]; omega), trivial⟩ ⟨⟨by decide, _, rfl, .sameW hplain⟩, trivial⟩ .nil⟩
        rw [heq]; unfold bigR; rw [h2, h3]; rfl
  · have h1 : ¬ i < l.length := by have := of_decide_eq_false h1; omega
    have e : l.any (bigR n) = false := by rw [heq, List.drop_eq_nil_of_le (by omega)]; rfl
    refine And.intro rfl (rc_end (rc_slots [] rfl rfl rfl (fun l e => by cases e) (by decide) (by decide) rfl rfl (wr_of rfl) (d := 6) (d2 := 0) (lv := []) (bs := []) (W := []) (m := 1) (df := []) trivial trivial .nil) (fun f => ?_))
    rw [e]; exact ⟨_, _, _, rfl, wr_ge rfl⟩
noncomputable def ct_bigRecs : Ct Try.prog 0 := CtR.rd1 layR 10 Int (fun n => [.int .i64 n]) (fun l n => .bool (l.any (bigR n))) (fun l _ => l.length ≤ 1000000000) (fun _ => rfl) (fun _ _ => rfl) (fun y z h => by simpa using h) (by kernel_rfl)
  (fun c a b l n ha hb hl => by obtain ⟨r, hF, H, m, wr, rfl, hw⟩ := bigRecs_fn a b l c n ha hb hl; exact ⟨H, m, wr, hF, hw⟩)
end Go.Proofs.Ytmpaeabkdhjamaa
/- DERIVED. The law's walk: RecChecks. -/
namespace Go.Proofs.Ytmpaeabkdhjamaa
open Go Go.RowKit
theorem awake_eval : retTrue (evT Try.prog 0 ([] : List (Ct Try.prog 0)) 1000000 (.call 15 []) fs0) = true := by kernel_rfl
theorem awake_calls (w : World) : Calls Try.prog 15 #[] w fun e w' => e = .returned (.bool true) ∧ Below w.heap.size w w' := evT_true mixed [] 1000000 _ awake_eval w
noncomputable def tbR5 : Tb Try.prog 0 := tbOf mixed [ct_bigRecs, ct_recSame, ct_rrecSame, ct_recCheck, ct_rrecCheck, Ct.yes 15 awake_calls]
theorem lowEq_refl (x : RcX) : lowEq x x = true := (lowEq_iff x x).2 ⟨rfl, rfl, rfl, rfl⟩
theorem lowEq_symm (x y : RcX) : lowEq x y = lowEq y x := by
  rw [Bool.eq_iff_iff, lowEq_iff, lowEq_iff]
  exact ⟨fun ⟨a, b, c, d⟩ => ⟨a.symm, b.symm, c.symm, d.symm⟩, fun ⟨a, b, c, d⟩ => ⟨a.symm, b.symm, c.symm, d.symm⟩⟩
theorem sameR_self (x : RcX) : sameR x x = (recC x == 0) := by unfold sameR; rw [lowEq_refl]; cases (recC x == 0) <;> rfl
theorem ok_of_small {x : RcX} {n : Int} (hn : n ≤ 100000000) (h : bigR n x = false) : x.ok = true := by
  unfold bigR at h
  simp only [Bool.or_eq_false_iff, decide_eq_false_iff_not] at h
  unfold RcX.ok
  rw [Nat.ble_eq_true_of_le (by omega), Nat.ble_eq_true_of_le (by omega)]; rfl
theorem okRR_of {x y : RcX} (hx : x.ok = true) (hy : y.ok = true) : okRR (x, y) = true := by unfold okRR; rw [hx, hy]; rfl
set_option maxRecDepth 100000 in
theorem checks_fn (x y : RcX) : ∃ r, FnS Try.prog 0 3 [x.v, y.v] .e 0 r ∧ ∃ H m wr, r = .ret (.bool true) H m wr := by
  refine fn_sx mixed tbR5 [] Try.func3 (c := bodyOf Try.f3) (by kernel_rfl) ?_
  refine Exists.intro (⟨2, 2, [], [x, y], []⟩, 3000) (And.intro ⟨rfl, ⟨seesB_cells (by show Tr.get _ 2 = some (AObj.cells (x.g ++ y.g) 23); rfl), rfl, rfl⟩, by simp⟩ ?_)
  refine ifK (fun h => ?_) (fun h => ?_)
  · exact ⟨_, _, _, rfl⟩
  have h : [x, y].any (bigR 3000) = false := h
  simp only [List.any_cons, List.any_nil, Bool.or_false, Bool.or_eq_false_iff] at h
  have hx := ok_of_small (by decide) h.1
  have hy := ok_of_small (by decide) h.2
  refine And.intro ?_ ?_
  · kernel_rfl
  refine And.intro hx (And.intro hx ?_)
  refine ifK (fun _ => ?_) (fun h => absurd h (by simp))
  refine And.intro (okRR_of hx hy) (And.intro (okRR_of hx hy) ?_)
  refine ifK (fun _ => ?_) (fun h => absurd h (by simp))
  refine And.intro (okRR_of hx hx) (And.intro hx ?_)
  refine ifK (fun _ => ?_) (fun h => ?_)
  · exact ⟨_, _, _, rfl⟩
  · exfalso
    have h : (sameR x x == (recC x == 0)) = false := h
    rw [sameR_self] at h; simp at h
theorem checks_calls (x y : RcX) (w : World) : Calls Try.prog 3 #[x.v, y.v] w fun e w' => e = .returned (.bool true) ∧ Below w.heap.size w w' := by
  obtain ⟨r, h, H, m, wr, rfl⟩ := checks_fn x y
  exact calls_of_tok rfl rfl h w
end Go.Proofs.Ytmpaeabkdhjamaa
/- DERIVED. Names and data in lower form: the plain law. -/
namespace Go.Proofs.Ytmpaeabkdhjamaa
open Go Go.RowKit

/-- What a name is. -/
inductive Nm : Bs → Prop
  | root : Nm [0]
  | lab (c : UInt8) (x r : Bs) (h1 : 0 < c.toNat) (h2 : c.toNat ≤ 63) (hx : x.length = c.toNat) (hr : Nm r) : Nm (c :: (x ++ r))
theorem Nm.pos {l : Bs} (h : Nm l) : 0 < l.length := by cases h <;> simp
theorem nameSeq_nm : ∀ (f : Nat) (l : Bs), l.length < f → (none ∉ nameSeq f l ↔ Nm l)
  | f + 1, l, hf => by
    rw [nameSeq]
    by_cases h0 : l = [0]
    · rw [if_pos h0, h0]; exact ⟨fun _ => .root, fun _ => by simp⟩
    rw [if_neg h0]
    by_cases h1 : l.length = 0 ∨ bt l 0 = 0 ∨ 63 < bt l 0 ∨ l.length ≤ bt l 0
    · rw [if_pos h1]
      refine ⟨fun h => absurd (by simp) h, fun h => ?_⟩
      exfalso
      cases h with
      | root => exact h0 rfl
      | lab c x r g1 g2 g3 g4 =>
        have hb : bt (c :: (x ++ r)) 0 = c.toNat := rfl
        rw [hb] at h1
        simp only [List.length_cons, List.length_append] at h1
        omega
    · rw [if_neg h1]
      cases l with
      | nil => exact absurd (.inl rfl) h1
      | cons c tl =>
        have hb : bt (c :: tl) 0 = c.toNat := rfl
        rw [hb] at h1 ⊢
        have e1 : (c :: tl).drop (1 + c.toNat) = tl.drop c.toNat := by rw [Nat.add_comm]; rfl
        rw [e1]
        simp only [List.length_cons] at h1 hf
        have ih := nameSeq_nm f (tl.drop c.toNat) (by rw [List.length_drop]; omega)
        have e2 : (none ∉ some ((c :: tl).tail.take c.toNat) :: nameSeq f (tl.drop c.toNat)) ↔ none ∉ nameSeq f (tl.drop c.toNat) := by simp
        rw [e2, ih]
        constructor
        · intro h
          have := Nm.lab c (tl.take c.toNat) (tl.drop c.toNat) (by omega) (by omega) (by rw [List.length_take]; omega) h
          rwa [List.take_append_drop] at this
        · intro h
          generalize hq : c :: tl = q at h
          cases h with
          | root => exact absurd hq h0
          | lab c' x r g1 g2 g3 g4 =>
            simp only [List.cons.injEq] at hq
            obtain ⟨rfl, rfl⟩ := hq
            rw [← g3, List.drop_left]; exact g4
theorem labels_nm (l : Bs) : (labels l).2 = 0 ↔ Nm l ∧ l.length ≤ 255 := by
  have h := nameSeq_nm (l.length + 1) l (by omega)
  unfold labels
  by_cases h1 : none ∈ nameSeq (l.length + 1) l
  · rw [if_pos h1]
    exact ⟨fun e => (by cases e), fun e => absurd h1 (h.2 e.1)⟩
  · rw [if_neg h1]
    by_cases h2 : 255 < l.length
    · rw [if_pos h2]; exact ⟨fun e => (by cases e), fun e => by omega⟩
    · rw [if_neg h2]; exact ⟨fun _ => ⟨h.1 h1, by omega⟩, fun _ => rfl⟩

theorem lo_small {c : UInt8} (h : c.toNat ≤ 64) : lo c = c := by unfold lo; rw [if_neg (by omega)]
theorem lo_lo (c : UInt8) : lo (lo c) = lo c := by
  by_cases h : 65 ≤ c.toNat ∧ c.toNat ≤ 90
  · have e : lo c = c + 32 := by unfold lo; rw [if_pos h]
    have e2 : (c + 32).toNat = c.toNat + 32 := by rw [UInt8.toNat_add]; simp; omega
    rw [e]
    unfold lo
    rw [if_neg (by rw [e2]; omega)]
  · have e : lo c = c := by unfold lo; rw [if_neg h]
    rw [e, e]
theorem lower_lower (l : Bs) : lower (lower l) = lower l := by
  unfold lower
  rw [List.map_map]
  exact List.map_congr_left (fun c _ => lo_lo c)
theorem lower_append (a b : Bs) : lower (a ++ b) = lower a ++ lower b := by simp [lower]
theorem Nm.lower {l : Bs} (h : Nm l) : Nm (lower l) := by
  induction h with
  | root => exact .root
  | lab c x r h1 h2 hx hr ih =>
    have e : Go.Proofs.Ytmpaeabkdhjamaa.lower (c :: (x ++ r)) = c :: (Go.Proofs.Ytmpaeabkdhjamaa.lower x ++ Go.Proofs.Ytmpaeabkdhjamaa.lower r) := by
      rw [← lower_append]
      show lo c :: _ = _
      rw [lo_small (by omega)]; rfl
    rw [e]
    exact .lab c _ _ h1 h2 (by rw [lower_len, hx]) ih
theorem labels_lower {l : Bs} (h : (labels l).2 = 0) : (labels (lower l)).2 = 0 := by
  obtain ⟨h1, h2⟩ := (labels_nm l).1 h
  exact (labels_nm _).2 ⟨h1.lower, by rw [lower_len]; exact h2⟩
theorem zpos_nm {n : Bs} (h : Nm n) (r : Bs) : zpos (n ++ r) = some (n.length - 1) := by
  induction h with
  | root => show zpos (0 :: r) = _; rw [zpos_cons, if_pos (by decide)]; rfl
  | lab c x q h1 h2 hx hr ih =>
    have hp := hr.pos
    show zpos (c :: ((x ++ q) ++ r)) = _
    rw [zpos_cons, if_neg (by omega), List.append_assoc, ← hx, List.drop_left, ih]
    simp only [Option.map_some, List.length_cons, List.length_append, Option.some.injEq]; omega
theorem front_nm {n : Bs} (h : Nm n) (hl : n.length ≤ 255) (r : Bs) : front (n ++ r) = some n.length := by
  have hp := h.pos
  unfold front
  rw [zpos_nm h]
  have e : n.length - 1 + 1 = n.length := by omega
  simp only [e, List.take_left]
  rw [if_pos ((labels_nm n).2 ⟨h, hl⟩)]
theorem front_take {l : Bs} {k : Nat} (h : front l = some k) : Nm (l.take k) ∧ (l.take k).length = k ∧ k ≤ 255 ∧ (labels (l.take k)).2 = 0 := by
  have h1 := front_le h
  have h2 := front_len h
  unfold front at h
  split at h
  · rename_i j hj
    split at h
    · rename_i hl
      cases h
      exact ⟨((labels_nm _).1 hl).1, by rw [List.length_take]; omega, h2, hl⟩
    · cases h
  · cases h
theorem front_low {l : Bs} {k : Nat} (h : front l = some k) (r : Bs) : front (lower (l.take k) ++ r) = some k := by
  obtain ⟨h1, h2, h3, _⟩ := front_take h
  have := front_nm h1.lower (by rw [lower_len]; omega) r
  rw [this, lower_len, h2]
def lowQ (p : Bs × Bool) : Bs × Bool := (lowP p, p.2)
theorem cuts_low : ∀ (ps : List Pt) (l : Bs) (o : List (Bs × Bool)) (r : Bs), ps.all Pt.small = true → cuts ps l = some (o, r) → cuts ps (o.flatMap lowP ++ r) = some (o.map lowQ, r)
  | [], l, o, r, _, h => by simp only [cuts, Option.some.injEq, Prod.mk.injEq] at h; obtain ⟨rfl, rfl⟩ := h; rfl
  | p :: ps, l, o, r, ha, h => by
    simp only [List.all_cons, Bool.and_eq_true] at ha
    simp only [cuts] at h
    cases hc : p.cut l with
    | none => rw [hc] at h; cases h
    | some n =>
      rw [hc] at h
      simp only [] at h
      obtain ⟨⟨o', r'⟩, h1, h2⟩ := Option.map_eq_some_iff.1 h
      simp only [Prod.mk.injEq] at h2
      obtain ⟨rfl, rfl⟩ := h2
      have ih := cuts_low ps _ _ _ ha.2 h1
      have hle := cut_le hc
      have hlen : (lowP (l.take n, p.isName)).length = n := by rw [lowP_len, List.length_take]; omega
      have hcut : p.cut (lowP (l.take n, p.isName) ++ (o'.flatMap lowP ++ r')) = some n := by
        cases p with
        | nm => exact front_low hc _
        | rest => cases ha.1
        | sz k =>
          simp only [Pt.cut] at hc ⊢
          split at hc <;> cases hc
          rw [if_pos (by rw [List.length_append, hlen]; omega)]
      rw [List.flatMap_cons, List.append_assoc]
      simp only [cuts, hcut]
      rw [show ((lowP (l.take n, p.isName)) ++ (o'.flatMap lowP ++ r')).drop n = o'.flatMap lowP ++ r' from by rw [List.drop_append, hlen, Nat.sub_self, List.drop_of_length_le (by omega)]; rfl, ih]
      simp only [Option.map_some, List.map_cons, Option.some.injEq, Prod.mk.injEq, List.cons.injEq, and_true]
      unfold lowQ
      rw [show ((lowP (l.take n, p.isName)) ++ (o'.flatMap lowP ++ r')).take n = lowP (l.take n, p.isName) from by rw [List.take_append, hlen, Nat.sub_self, List.take_of_length_le (by omega)]; simp]
theorem lowP_lowQ (p : Bs × Bool) : lowP (lowQ p) = lowP p := by
  unfold lowQ lowP
  cases p.2 with
  | true => exact lower_lower _
  | false => rfl

/-- WHAT LOWER DOES. -/
theorem lowerD_spec (t : Int) (l : Bs) : (lowerD t l).length = l.length ∧ checkD t (lowerD t l) = checkD t l ∧ lowerD t (lowerD t l) = lowerD t l := by
  by_cases h0 : checkD t l = 0
  · have hf := (check_zero h0).2.2.2
    cases hp : ptsT t with
    | none =>
      have e : ∀ l, lowerD t l = l := fun l => by unfold lowerD; rw [hp]; rfl
      rw [e, e]; exact ⟨rfl, rfl, rfl⟩
    | some ps =>
      obtain ⟨hr, ⟨h1, h2⟩ | h1⟩ := ptsT_case hp
      · obtain ⟨o, q1, q2⟩ := fits_out hp hf
        have low : ∀ (l : Bs) (o : List (Bs × Bool)), outT t l = some (o, []) → lowerD t l = o.flatMap lowP := fun l o q => by
          unfold lowerD
          rw [hp]
          have e1 : outP t l = o := by unfold outP; rw [q]
          have e2 : (outR t l).isEmpty = true := by unfold outR; rw [q]; rfl
          simp only [Option.isSome_some, cond_true, e1, e2, q, Bool.and_self]
        have e1 := low l o q2
        have q3 := cuts_low ps l o [] h1 q1
        rw [List.append_nil] at q3
        have q4 : outT t (o.flatMap lowP) = some (o.map lowQ, []) := by unfold outT; rw [hp]; exact q3
        have e2 := low _ _ q4
        have hf2 : fitsD t (o.flatMap lowP) = true := by
          unfold fitsD outR
          rw [hp, q4]; rfl
        obtain ⟨w1, w2⟩ := cuts_sum _ _ _ _ q1
        rw [List.append_nil] at w2
        have hlen : (o.flatMap lowP).length = l.length := by
          rw [← w2]
          clear q1 q2 e1 q3 q4 e2 hf2 w1 w2
          induction o with
          | nil => rfl
          | cons x o ih => simp only [List.flatMap_cons, List.length_append, lowP_len, ih]
        rw [e1]
        refine ⟨hlen, ?_, ?_⟩
        · rw [h0]; exact check_fits hp h1 h2 hr hf2
        · rw [e2, List.flatMap_map]
          exact congrArg List.flatten (List.map_congr_left (fun p _ => lowP_lowQ p))
      · have e : lowerD t l = l := by
          subst h1
          obtain ⟨o, q1, q2⟩ := fits_out hp hf
          have e1 : outP t l = o := by unfold outP; rw [q2]
          unfold lowerD
          rw [hp, q2, e1]
          obtain ⟨w1, w2⟩ := cuts_sum _ _ _ _ q1
          simp only [cuts] at q1
          cases hc : Pt.rest.cut l with
          | none => rw [hc] at q1; cases q1
          | some n =>
            rw [hc] at q1
            simp only [Option.map_some, Option.some.injEq, Prod.mk.injEq] at q1
            obtain ⟨rfl, _⟩ := q1
            have hb : (outR t l).isEmpty = true := by unfold outR; rw [q2]; rfl
            rw [hb]
            simpa [lowP, Pt.isName] using w2
        rw [e, e]; exact ⟨rfl, rfl, rfl⟩
  · rw [lower_no h0, lower_no h0]; exact ⟨rfl, rfl, rfl⟩
theorem tgtD_lower (t : Int) (l : Bs) : (tgtD t (lowerD t l)).isSome = (tgtD t l).isSome ∧ ∀ n, tgtD t l = some n → tgtD t (lowerD t l) = some (lower n) ∧ (labels n).2 = 0 := by
  obtain ⟨s1, s2, s3⟩ := lowerD_spec t l
  by_cases h0 : checkD t l = 0
  · have h0' : checkD t (lowerD t l) = 0 := by rw [s2, h0]
    have hf := (check_zero h0).2.2.2
    have frontOf : ∀ (l : Bs), (∃ k, front l = some k ∧ l.take k = l) → (labels l).2 = 0 := fun l ⟨k, hk, ht⟩ => by
      have := (front_take hk).2.2.2
      rwa [ht] at this
    unfold tgtD
    rw [if_pos h0, if_pos h0']
    by_cases h1 : t = 2 ∨ t = 5 ∨ t = 12
    · rw [if_pos h1, if_pos h1]
      have hp : ptsT t = some [.nm] := by rcases h1 with rfl | rfl | rfl <;> rfl
      have ho := out_nm hp hf
      have e : lowerD t l = lower l := by
        unfold lowerD outP outR
        rw [hp, ho]
        simp [lowP]
      obtain ⟨o, q1, q2⟩ := fits_out hp hf
      have hl : (labels l).2 = 0 := by
        simp only [cuts] at q1
        cases hc : Pt.nm.cut l with
        | none => rw [hc] at q1; cases q1
        | some k =>
          rw [hc] at q1
          simp only [Option.map_some, Option.some.injEq, Prod.mk.injEq] at q1
          exact frontOf l ⟨k, hc, cut_all hc q1.2⟩
      refine ⟨rfl, fun n hn => ?_⟩
      simp only [Option.some.injEq] at hn
      subst hn
      rw [e]; exact ⟨rfl, hl⟩
    · rw [if_neg h1, if_neg h1]
      by_cases h2 : t = 15
      · subst h2
        rw [if_pos rfl, if_pos rfl]
        have ho := out_mx hf
        have e : lowerD 15 l = l.take 2 ++ lower (l.drop 2) := by
          unfold lowerD outP outR
          rw [show ptsT 15 = some [.sz 2, .nm] from rfl, ho]
          simp [lowP]
        obtain ⟨o, q1, q2⟩ := fits_out (t := 15) (ps := [.sz 2, .nm]) rfl hf
        simp only [cuts] at q1
        cases hc0 : (Pt.sz 2).cut l with
        | none => rw [hc0] at q1; cases q1
        | some m =>
          rw [hc0] at q1
          have hm : m = 2 ∧ 2 ≤ l.length := by simp only [Pt.cut] at hc0; split at hc0 <;> cases hc0; exact ⟨rfl, by assumption⟩
          obtain ⟨rfl, hm2⟩ := hm
          simp only [] at q1
          cases hc : Pt.nm.cut (l.drop 2) with
          | none => rw [hc] at q1; cases q1
          | some k =>
            rw [hc] at q1
            simp only [Option.map_some, Option.some.injEq, Prod.mk.injEq] at q1
            have hl := frontOf (l.drop 2) ⟨k, hc, cut_all hc q1.2⟩
            refine ⟨rfl, fun n hn => ?_⟩
            simp only [Option.some.injEq] at hn
            subst hn
            rw [e]
            refine ⟨?_, hl⟩
            rw [List.drop_append, List.drop_of_length_le (by rw [List.length_take]; omega)]
            have : 2 - (l.take 2).length = 0 := by rw [List.length_take]; omega
            rw [this]; rfl
      · rw [if_neg h2, if_neg h2]
        exact ⟨rfl, fun n hn => by cases hn⟩
  · have h0' : ¬ checkD t (lowerD t l) = 0 := by rw [s2]; exact h0
    unfold tgtD
    rw [if_neg h0, if_neg h0']
    exact ⟨rfl, fun n hn => by cases hn⟩
end Go.Proofs.Ytmpaeabkdhjamaa
/- DERIVED. The law's walk: RecReadsOnly. -/
namespace Go.Proofs.Ytmpaeabkdhjamaa
open Go Go.RowKit
theorem Rd.nm {B : Bl} {a p i : Nat} {out : Bl} {bh : Int} {r : RR} (h : Rd B a p i out bh r) (he : r.e = 0) : ∃ x, r.s = out ++ x ∧ Nm x := by
  induction h with
  | zero h hc => exact ⟨[0], rfl, .root⟩
  | ptr h hc h2 h3 hr ih => exact ih he
  | lab h hc hc2 h2 h3 hr ih =>
    rename_i i out bh r
    obtain ⟨x, e1, e2⟩ := ih he
    refine ⟨(B.drop i).take (cB B i + 1) ++ x, by rw [e1, List.append_assoc], ?_⟩
    have hg : B.getD i 0 = B[i] := by simp [List.getD_eq_getElem?_getD, List.getElem?_eq_getElem h]
    have e : (B.drop i).take (cB B i + 1) = B.getD i 0 :: (B.drop (i + 1)).take (cB B i) := by rw [List.drop_eq_getElem_cons h, List.take_succ_cons, hg]
    rw [e, List.cons_append]
    exact .lab _ _ _ hc hc2 (by rw [List.length_take, List.length_drop]; unfold cB at *; omega) e2
  | _ => cases he
theorem rdOk.nm {B : Bl} {x : Int} {r : RR} (h : rdOk B x r) (he : r.e = 0) : (labels r.s).2 = 0 := by
  have hf := (h.fine.2 he).2.2
  rcases h with ⟨_, rfl⟩ | ⟨a, rfl, h1, h2⟩
  · cases he
  · obtain ⟨x, e1, e2⟩ := h2.nm he
    rw [List.nil_append] at e1
    rw [e1] at hf ⊢
    exact (labels_nm x).2 ⟨e2, hf⟩
noncomputable def tbR9 : Tb Try.prog 0 := tbOf mixed [cq_recread.ct, cq_question.ct, ct_recCheck, ct_pick, Ct.yes 15 awake_calls]
set_option maxRecDepth 1000000 in
set_option maxHeartbeats 4000000 in
theorem ronly_fn (l : Bl) (c : Nat) (i : Int) (hl : l.length ≤ c) (hc : c ≤ 9223372036854775807) : ∃ r, FnS Try.prog 0 7 [.slice (some ⟨0, 0, none⟩) l.length c, .int .i64 i] (heap 1 [(0, .win (l.map byV) 1)]) 1 r ∧ ∃ H m wr, r = .ret (.bool true) H m wr ∧ ∀ k ∈ wr, 1 ≤ k := by
  have hB : (l.drop 0).take l.length = l := by rw [List.drop_zero, List.take_length]
  refine fn_sx mixed tbR9 [0] Try.func7 (c := bodyOf Try.f7) (by kernel_rfl) ?_
  refine ifK (fun _ => ?_) (fun h0 => ?_)
  · exact ⟨_, _, _, rfl, wr_ge rfl⟩
  have h0 : ¬ (l.length : Int) > 3000 := of_decide_eq_false h0
  have e1 : IntKind.i64.wrap ((l.length : Int) + 1) = l.length + 1 := wrapM (by omega) (by omega)
  have ep : pickI i (IntKind.i64.wrap ((l.length : Int) + 1)) = i % (l.length + 1) := by rw [e1, pickI_of (by omega) (by omega)]
  refine Exists.intro (⟨0, 0, l.length, c, l⟩, pickI i (IntKind.i64.wrap ((l.length : Int) + 1))) (And.intro ⟨rfl, ⟨rfl, (by show 0 + l.length ≤ l.length; omega)⟩, (by show l.length ≤ _; omega), .inr ⟨hl, hc⟩⟩ ?_)
  intro v hv
  have hv : recQ ((l.drop 0).take l.length) (pickI i (IntKind.i64.wrap ((l.length : Int) + 1))) v := hv
  rw [hB] at hv
  obtain ⟨P, hP⟩ : ∃ P, pickI i (IntKind.i64.wrap ((l.length : Int) + 1)) = P := ⟨_, rfl⟩
  have hP2 : 0 ≤ P ∧ P ≤ l.length := by
    rw [← hP, ep]
    have := Int.emod_nonneg i (show ((l.length : Int) + 1) ≠ 0 by omega)
    have := Int.emod_lt_of_pos i (show (0 : Int) < l.length + 1 by omega)
    omega
  have numlt : ∀ k sz, sz ≤ 2 → numAt l k sz < 65536 := fun k sz hs => by
    unfold numAt
    refine Nat.lt_of_lt_of_le (beN_lt _) (Nat.le_trans (Nat.pow_le_pow_right (by decide) (show _ ≤ 2 by rw [List.length_take]; omega)) (by decide))
  cases hv with
  | @name r hr he =>
    obtain ⟨p1, p2⟩ := hr.fine.1 he
    refine ifK (fun _ => ?_) (fun g => absurd g (by simpa using he))
    refine And.intro ?_ ?_
    · kernel_rfl
    refine ifK (fun _ => ?_) (fun g => absurd p1 (of_decide_eq_false g))
    exact ⟨_, _, _, congrArg (fun b => Res.ret (.bool b) _ _ _) (decide_eq_true p2), wr_ge rfl⟩
  | short hr he hk hlen =>
    refine And.intro ?_ ?_
    · kernel_rfl
    exact ⟨_, _, _, congrArg (fun b => Res.ret (.bool b) _ _ _) (decide_eq_true (Int.le_refl _)), wr_ge rfl⟩
  | @data r k y hr he hk hlen hy hf =>
    obtain ⟨_, p1, p2⟩ := hy.fine.1 hf
    refine ifK (fun _ => ?_) (fun g => absurd g (by simpa using hf))
    refine And.intro ?_ ?_
    · kernel_rfl
    refine ifK (fun _ => ?_) (fun g => absurd p1 (of_decide_eq_false g))
    exact ⟨_, _, _, congrArg (fun b => Res.ret (.bool b) _ _ _) (decide_eq_true p2), wr_ge rfl⟩
  | @fine r k y hr he hk hlen hy hf =>
    have hnext := hr.pos he
    rw [hk, hP] at hnext
    obtain ⟨_, hchk, _, hin⟩ := hy.fine.2 hf
    have hnm := hr.nm he
    have hs := (hr.fine.2 he).2.2
    have hd : y.1.length ≤ 65535 := (check_zero hchk).2.2.1
    refine Exists.intro (⟨0, 0, l.length, c, l⟩, pickI i (IntKind.i64.wrap ((l.length : Int) + 1))) (And.intro ⟨rfl, ⟨rfl, (by show 0 + l.length ≤ l.length; omega)⟩, (by show l.length ≤ _; omega), .inr ⟨hl, hc⟩⟩ ?_)
    intro u hu
    have hu : queQ ((l.drop 0).take l.length) (pickI i (IntKind.i64.wrap ((l.length : Int) + 1))) u := hu
    rw [hB] at hu
    have eu := hu.det (queQ.fine hr he hk (by omega))
    subst eu
    obtain ⟨ttl, httl⟩ : ∃ ttl : Int, (if numAt l (k + 4) 4 > 2147483647 then 0 else (numAt l (k + 4) 4 : Int)) = ttl := ⟨_, rfl⟩
    have httl2 : 0 ≤ ttl ∧ ttl ≤ 2147483647 := by rw [← httl]; split <;> omega
    obtain ⟨x, hx⟩ : ∃ x : RcX, x = ⟨⟨r.s.toArray⟩, (numAt l k 2 : Int), (numAt l (k + 2) 2 : Int), ttl, ⟨y.1.toArray⟩⟩ := ⟨_, rfl⟩
    have eS : bs ⟨r.s.toArray⟩ = r.s := bs_mk _
    have eD : bs ⟨y.1.toArray⟩ = y.1 := bs_mk _
    have hxok : x.ok = true := by
      subst hx
      unfold RcX.ok
      rw [Nat.ble_eq_true_of_le (by show r.s.length ≤ _; omega), Nat.ble_eq_true_of_le (by show y.1.length ≤ _; omega)]; rfl
    have hrc : recC x = 0 := by
      subst hx
      unfold recC
      simp only [eS, eD]
      have n1 := numlt k 2 (Nat.le_refl _)
      have n2 := numlt (k + 2) 2 (Nat.le_refl _)
      have b1 : numB (numAt l k 2 : Int) 65535 = true := by unfold numB; rw [decide_eq_true_iff]; omega
      have b2 : numB (numAt l (k + 2) 2 : Int) 65535 = true := by unfold numB; rw [decide_eq_true_iff]; omega
      have b3 : numB ttl 2147483647 = true := by unfold numB; rw [decide_eq_true_iff]; omega
      rw [if_neg (by rw [hnm]; simp), b1, b2, b3]
      simpa using hchk
    have hxok' : (⟨⟨r.s.toArray⟩, (numAt l k 2 : Int), (numAt l (k + 2) 2 : Int), (if numAt l (k + 4) 4 > 2147483647 then 0 else (numAt l (k + 4) 4 : Int)), ⟨y.1.toArray⟩⟩ : RcX).ok = true := by rw [httl, ← hx]; exact hxok
    refine And.intro hxok' ?_
    have hrc' : (recC (⟨⟨r.s.toArray⟩, (numAt l k 2 : Int), (numAt l (k + 2) 2 : Int), (if numAt l (k + 4) 4 > 2147483647 then 0 else (numAt l (k + 4) 4 : Int)), ⟨y.1.toArray⟩⟩ : RcX) == 0) = true := by rw [httl, ← hx, hrc]; rfl
    refine ifK (fun _ => ?_) (fun g => by cases hrc'.symm.trans g)
    refine ifK (fun _ => ?_) (fun g => absurd (show ((k + 10 : Nat) : Int) + (numAt l (k + 8) 2 : Int) > pickI i (IntKind.i64.wrap ((l.length : Int) + 1)) by rw [hP]; omega) (of_decide_eq_false g))
    refine ifK (fun _ => ?_) (fun g => absurd hin (of_decide_eq_false g))
    refine ifK (fun _ => ?_) (fun g => absurd (show ((k + 4 : Nat) : Int) < ((k + 10 : Nat) : Int) + (numAt l (k + 8) 2 : Int) by omega) (of_decide_eq_false g))
    refine And.intro ?_ ?_
    · kernel_rfl
    exact ⟨_, _, _, congrArg (fun b => Res.ret (.bool b) _ _ _) (by simp), wr_ge rfl⟩
end Go.Proofs.Ytmpaeabkdhjamaa
/- DERIVED. Data: Read, by the document. -/
namespace Go.Proofs.Ytmpaeabkdhjamaa
open Go Go.RowKit
noncomputable def tbD10 : Tb Try.prog 0 := tbOf mixed [ct_rreadY, ct_rbytes, ct_form, ct_rtexts]
/-- What the document's reading tells, part by part. -/
inductive RfP (B : Bl) (a e : Int) : List Pr → Int → Bs → Bs × Int × Int → Prop
  | fin {i : Int} {out : Bs} (h1 : i = e) : RfP B a e [] i out (out, 0, 0)
  | off {i : Int} {out : Bs} (h : ¬ i = e) : RfP B a e [] i out ([], 4, a)
  | nmb {ps : List Pr} {i : Int} {out : Bs} {r : RR} (h : rdOk B i r) (he : r.e ≠ 0) : RfP B a e (.nm :: ps) i out ([], r.e, r.pos)
  | nmo {ps : List Pr} {i : Int} {out : Bs} {r : RR} (h : rdOk B i r) (he : r.e = 0) (h2 : r.next > e) : RfP B a e (.nm :: ps) i out ([], 4, a)
  | nmc {ps : List Pr} {i : Int} {out : Bs} {r : RR} {y : Bs × Int × Int} (h : rdOk B i r) (he : r.e = 0) (h2 : ¬ r.next > e) (k : RfP B a e ps r.next (out ++ r.s) y) : RfP B a e (.nm :: ps) i out y
  | all {ps : List Pr} {i : Int} {out : Bs} {y : Bs × Int × Int} (k : RfP B a e ps e (out ++ (B.drop i.toNat).take (e.toNat - i.toNat)) y) : RfP B a e (.all :: ps) i out y
  | txb {ps : List Pr} {i : Int} {out : Bs} (h : texts ((B.drop i.toNat).take (e.toNat - i.toNat)) = false) : RfP B a e (.rest :: ps) i out ([], 4, a)
  | txc {ps : List Pr} {i : Int} {out : Bs} {y : Bs × Int × Int} (h : texts ((B.drop i.toNat).take (e.toNat - i.toNat)) = true) (k : RfP B a e ps e (out ++ (B.drop i.toNat).take (e.toNat - i.toNat)) y) : RfP B a e (.rest :: ps) i out y
  | szb {ps : List Pr} {z : Nat} {i : Int} {out : Bs} (h : (z : Int) > e - i) : RfP B a e (.sz z :: ps) i out ([], 4, a)
  | szc {ps : List Pr} {z : Nat} {i : Int} {out : Bs} {y : Bs × Int × Int} (h : ¬ (z : Int) > e - i) (k : RfP B a e ps (i + z) (out ++ (B.drop i.toNat).take ((i + z).toNat - i.toNat)) y) : RfP B a e (.sz z :: ps) i out y
theorem RfP.rd {B : Bl} {a e t : Int} (he : e ≤ B.length) : ∀ (ps : List Pt) (i : Int) (out : Bs) (y : Bs × Int × Int), ps.all Pt.small = true → 0 ≤ i → RfP B a e (ps.map Pt.pr) i out y →
    (∀ tail o, cuts ps tail = some (o, []) → checkD t (out ++ tail) = 0) → RdP B a e t ps i out y
  | [], i, out, y, _, _, h, hc => by
    cases h with
    | fin h1 => exact .fin h1 (by have := hc [] [] rfl; rwa [List.append_nil] at this)
    | off h1 => exact .off (fun q => h1 q.1)
  | p :: ps, i, out, y, hs, hi, h, hc => by
    simp only [List.all_cons, Bool.and_eq_true] at hs
    cases p with
    | rest => cases hs.1
    | nm =>
      cases h with
      | nmb h1 h2 => exact .nmb h1 h2
      | nmo h1 h2 h3 => exact .nmo h1 h2 h3
      | nmc h1 h2 h3 k =>
        rename_i r
        have hf := h1.fine.2 h2
        have hn := (labels_nm r.s).1 (h1.nm h2)
        refine .nmc h1 h2 h3 (RfP.rd he ps _ _ _ hs.2 hf.1 k (fun tail o ho => ?_))
        rw [List.append_assoc]
        refine hc (r.s ++ tail) ((r.s, true) :: o) ?_
        simp only [cuts, Pt.cut, front_nm hn.1 hn.2 tail, List.drop_left, ho, List.take_left]; rfl
    | sz z =>
      cases h with
      | szb h1 => exact .szb (by omega)
      | szc h1 k =>
        refine .szc (by omega) (RfP.rd he ps _ _ _ hs.2 (by omega) k (fun tail o ho => ?_))
        rw [List.append_assoc]
        have hl : ((B.drop i.toNat).take ((i + z).toNat - i.toNat)).length = z := by rw [List.length_take, List.length_drop]; omega
        refine hc _ (((B.drop i.toNat).take ((i + z).toNat - i.toNat), false) :: o) ?_
        simp only [cuts, Pt.cut]
        rw [if_pos (by rw [List.length_append]; omega)]
        have e1 : List.drop z ((B.drop i.toNat).take ((i + z).toNat - i.toNat) ++ tail) = tail := List.drop_left' hl
        have e2 : List.take z ((B.drop i.toNat).take ((i + z).toNat - i.toNat) ++ tail) = (B.drop i.toNat).take ((i + z).toNat - i.toNat) := List.take_left' hl
        simp only [e1, e2, ho]; rfl
theorem fits_of {t : Int} {ps : List Pt} {l : Bs} {o : List (Bs × Bool)} (hp : ptsT t = some ps) (h : cuts ps l = some (o, [])) : fitsD t l = true := by
  unfold fitsD outR outT
  rw [hp]
  simp only [Option.isSome_some, cond_true, Option.bind_some, h]; rfl
theorem cuts_rest_no {l : Bs} (h : texts l = false) : cuts [.rest] l = none := by
  have : Pt.cut .rest l = none := by unfold Pt.cut; dsimp only; rw [h]; rfl
  simp only [cuts, this]
theorem cuts_rest_yes {l : Bs} (h : texts l = true) : cuts [.rest] l = some ([(l.take l.length, false)], []) := by
  have : Pt.cut .rest l = some l.length := by unfold Pt.cut; dsimp only; rw [h]; rfl
  simp only [cuts, this, List.drop_length]; rfl
theorem RfP.q {B : Bl} {a z t : Int} {y : Bs × Int × Int} (h1 : ¬ (t < 0 ∨ t > 65535 ∨ z < 0 ∨ z > 65535)) (h2 : ¬ (a < 0 ∨ a > B.length)) (h3 : ¬ (B.length : Int) - a < z) (h : RfP B a (a + z) (prT t) a [] y) : rdQ B a z t y := by
  have small : ∀ ps, ptsT t = some ps → prT t = ps.map Pt.pr → ps.all Pt.small = true → ps.length ≤ 3 → rdQ B a z t y := fun ps hp he hs hl =>
    rdQ_some h1 h2 h3 hp (RfP.rd (by omega) ps a [] y hs (by omega) (he ▸ h) (fun tail o ho => by
      rw [List.nil_append]; exact check_fits hp hs hl (by omega) (fits_of hp ho)))
  by_cases t1 : t = 1
  · subst t1; exact small [.sz 4] rfl rfl rfl (by decide)
  by_cases t2 : t = 28
  · subst t2; exact small [.sz 16] rfl rfl rfl (by decide)
  by_cases t3 : t = 2
  · subst t3; exact small [.nm] rfl rfl rfl (by decide)
  by_cases t4 : t = 5
  · subst t4; exact small [.nm] rfl rfl rfl (by decide)
  by_cases t5 : t = 12
  · subst t5; exact small [.nm] rfl rfl rfl (by decide)
  by_cases t6 : t = 15
  · subst t6; exact small [.sz 2, .nm] rfl rfl rfl (by decide)
  by_cases t7 : t = 6
  · subst t7; exact small [.nm, .nm, .sz 20] rfl rfl rfl (by decide)
  have hz : (a + z).toNat - a.toNat = z.toNat := by omega
  by_cases t8 : t = 16
  · subst t8
    have h : RfP B a (a + z) [.rest] a [] y := h
    refine rdQ_some (ps := [.rest]) h1 h2 h3 rfl (.rest ?_)
    cases h with
    | txb g => refine .off (fun q => ?_); have := (check_zero q.2).2.2.2; obtain ⟨o, ho, _⟩ := fits_out (ps := [.rest]) rfl this; rw [List.nil_append] at ho; rw [cuts_rest_no g] at ho; cases ho
    | txc g k =>
      cases k with
      | fin => refine .fin rfl ?_
               rw [List.nil_append]
               have hfit : fitsD 16 ((B.drop a.toNat).take ((a + z).toNat - a.toNat)) = true := fits_of (ps := [.rest]) rfl (cuts_rest_yes g)
               unfold checkD
               rw [if_neg (by omega), if_neg (by rw [List.length_take]; omega), hfit]; rfl
      | off g => exact absurd rfl g
  · have hp : ptsT t = none := by
      unfold ptsT
      simp only [beq_false_of_ne t1, beq_false_of_ne t2, beq_false_of_ne t3, beq_false_of_ne t4, beq_false_of_ne t5, beq_false_of_ne t6, beq_false_of_ne t7, beq_false_of_ne t8, cond_false]
    rw [prT_none hp] at h
    cases h with
    | all k =>
      cases k with
      | fin =>
        have := rdQ_none h1 h2 h3 hp
        rw [hz, List.nil_append]; exact this
      | off g => exact absurd rfl g

def rfS (l : Bl) (o n c : Nat) (a e : Int) (ps : List Pr) (x : Nat × Int × ByteArray) (f : Nat → Option Value) : Fs :=
  ⟨slots 8 [(0, .slice (some ⟨0, o, none⟩) n c), (9, .pointer (some ⟨1, 0, none⟩)), (11, .int .i64 e), (13, .pointer (some ⟨2, 0, none⟩)), (14, .slice (some ⟨3, 0, none⟩) ps.length ps.length), (15, .int .i64 x.2.1), (16, .string x.2.2), (17, .int .i64 x.1)] f,
    heap 3 [(0, .win (l.map byV) 1), (1, .cells [.int .i64 0, .int .i64 0] 55), (2, .cells [.int .i64 4, .int .i64 a] 55), (3, .cells ((ps.map Pr.i).map intV) 3)], 4, [], []⟩
set_option maxRecDepth 1000000 in
set_option maxHeartbeats 4000000 in
theorem rf_loop (l : Bl) (o n c : Nat) (a e : Int) (ps : List Pr) (hps : ps.length < 900) (h : o + n ≤ l.length) (hn : n ≤ 1000000) (hcap : c = U ∨ n ≤ c ∧ c ≤ 9223372036854775807) (ha : 0 ≤ a ∧ a ≤ e ∧ e ≤ n) {s0 : Fs} {K : Ex → Fs → Prop}
    (h0 : ∃ f, RcM Try.prog 0 1 (4 + (Try.f57.ntmps - 4)) none s0 (rfS l o n c a e ps (0, a, ⟨#[]⟩) f))
    (hret : ∀ er pos f, RfP ((l.drop o).take n) a e ps a [] ([], er, pos) → K .ret ⟨slots 8 [(8, .string ⟨#[]⟩), (9, .pointer (some ⟨1, 0, none⟩))] f, heap 2 [(1, .cells [.int .i64 er, .int .i64 pos] 55)], 2, [], []⟩)
    (hex : ∀ i out f, (∀ y, RfP ((l.drop o).take n) a e [] i (bs out) y → RfP ((l.drop o).take n) a e ps a [] y) → K (.exit 0) ⟨slots 8 [(9, .pointer (some ⟨1, 0, none⟩)), (11, .int .i64 e), (13, .pointer (some ⟨2, 0, none⟩)), (15, .int .i64 i), (16, .string out)] f, heap 3 [(1, .cells [.int .i64 0, .int .i64 0] 55), (2, .cells [.int .i64 4, .int .i64 a] 55)], 3, [], []⟩) :
    LW Try.prog 0 1 (4 + (Try.f57.ntmps - 4)) none (loopAt Try.f57 0) s0 K := by
  refine loop_goX (rfS l o n c a e ps) (fun x => ps.length - x.1) (fun x => x.1 ≤ ps.length ∧ (0 ≤ x.2.1 ∧ x.2.1 ≤ e) ∧ (bs x.2.2).length ≤ x.1 * 1001000 ∧ ∀ y, RfP ((l.drop o).take n) a e (ps.drop x.1) x.2.1 (bs x.2.2) y → RfP ((l.drop o).take n) a e ps a [] y) (0, a, ⟨#[]⟩) ⟨Nat.zero_le _, ⟨ha.1, ha.2.1⟩, by simp [bs], fun y hy => hy⟩ h0 ?_
  rintro ⟨k, i, out⟩ f ⟨hk, ⟨hi1, hi2⟩, hout, hinv⟩
  have hk : k ≤ ps.length := hk
  have hi1 : 0 ≤ i := hi1
  have hi2 : i ≤ e := hi2
  have hout : (bs out).length ≤ k * 1001000 := hout
  have hinv : ∀ y, RfP ((l.drop o).take n) a e (ps.drop k) i (bs out) y → RfP ((l.drop o).take n) a e ps a [] y := hinv
  have htake : ∀ j m : Nat, j + m ≤ n → (l.drop (o + j)).take m = (((l.drop o).take n).drop j).take m := fun j m hjm => by rw [List.drop_take, List.take_take, List.drop_drop, Nat.min_eq_left (by omega)]
  obtain ⟨ha1, ha2, ha3⟩ := ha
  have h1s : (Try.prog.types[5]).size = 1 := by kernel_rfl
  have lenB' : ((l.drop o).take n).length = n := lenB h
  have hmulk : k * 1001000 ≤ 900 * 1001000 := Nat.mul_le_mul_right _ (by omega)
  have side : ∀ (h1 : k < ps.length), ((ps.map Pr.i).map intV)[0 + ((k : Nat) : Int).toNat * 1]? = some (.int .i64 ps[k].i) := fun h1 => by
    rw [Int.toNat_natCast, Nat.zero_add, Nat.mul_one, List.getElem?_map, List.getElem?_map, List.getElem?_eq_getElem h1]; rfl
  have srcs : ∀ (x y : Int) (o' c' : Nat) (G : Gh), 0 ≤ x → x ≤ y → y ≤ n → (o' = o + x.toNat ∨ y.toNat - x.toNat = 0) → G 0 = some (.win (l.map byV) 1) → srcCells G 1 (.slice (some ⟨0, o', none⟩) (y.toNat - x.toNat) c') = some (y.toNat - x.toNat, (((l.drop (o + x.toNat)).take (y.toNat - x.toNat)).map fun b : UInt8 => Value.int .u8 (b.toNat : Int))) := fun x y o' c' G h1 h2 h3 ho hG => by
    unfold srcCells
    by_cases hz : y.toNat - x.toNat = 0
    · rw [hz]; simp
    · have ho := ho.resolve_right hz
      subst ho
      have : (y.toNat - x.toNat).beq 0 = false := by cases hb : (y.toNat - x.toNat).beq 0; rfl; exact absurd (Nat.eq_of_beq_eq_true hb) hz
      simp only [this, cond_false, hG, Option.bind_some, AObj.look]
      rw [Nat.ble_eq_true_of_le (by simp; omega)]
      simp only [cond_true, Nat.mul_one, List.map_take, List.map_drop]; rfl
  refine sx_ok tbD10 [0, 3] 1 _ none mixed _ _ _ ?_
  refine ifK (fun h1 => ?_) (fun h1 => ?_)
  · have h1 : k < ps.length := by have := of_decide_eq_true h1; omega
    have hsd := side h1
    have hst : ps.drop k = ps[k] :: ps.drop (k + 1) := List.drop_eq_getElem_cons h1
    have hmul1 : (k + 1) * 1001000 = k * 1001000 + 1001000 := by rw [Nat.add_mul, Nat.one_mul]
    refine ifK (fun _ => ?_) (fun h2 => absurd h2 (by simp [inI]; omega))
    cases hp : ps[k] with
    | nm =>
      rw [hp] at hsd
      refine Exists.intro (-1) (And.intro hsd ?_)
      refine Exists.intro (⟨0, o, n, c, l⟩, i) (And.intro ⟨rfl, ⟨rfl, h⟩, by show n ≤ _; omega, hcap⟩ ?_)
      intro r hr
      have hr : rdOk ((l.drop o).take n) i r := hr
      obtain ⟨s, nx, er, pos⟩ := r
      obtain ⟨q1, q2⟩ := hr.fine
      have q1 : er ≠ 0 → 0 ≤ pos ∧ pos ≤ (((l.drop o).take n).length : Int) := q1
      have q2 : er = 0 → 0 ≤ nx ∧ nx ≤ (((l.drop o).take n).length : Int) ∧ s.length ≤ 255 := q2
      rw [lenB'] at q1 q2
      refine ifK (fun h3 => ?_) (fun h3 => ?_)
      · have h3 : er ≠ 0 := by simpa using h3
        refine And.intro ?_ ?_
        · kernel_rfl
        exact And.intro rfl (rc_end (rc_slots [1] rfl rfl rfl (fun l e => by cases e) (by decide) (by decide) rfl rfl (wr_of rfl) (d := 8) (d2 := 2) (lv := [(8, .string ⟨#[]⟩), (9, .pointer (some ⟨1, 0, none⟩))]) (bs := [(1, .cells [.int .i64 er, .int .i64 pos] 55)]) (W := []) (m := 2) (df := []) ⟨⟨_, rfl, .string _⟩, ⟨_, rfl, .ptr _ _ _ rfl⟩, trivial⟩ ⟨⟨by decide, _, rfl, .same rfl⟩, trivial⟩ .nil) (fun f => hret _ _ f (hinv _ (by rw [hst, hp]; exact .nmb hr h3))))
      · have h3 : er = 0 := by simpa using h3
        obtain ⟨q3, q4, q5⟩ := q2 h3
        refine ifK (fun h4 => ?_) (fun h4 => ?_)
        · have h4 := of_decide_eq_true h4
          refine And.intro ?_ ?_
          · kernel_rfl
          exact And.intro rfl (rc_end (rc_slots [1] rfl rfl rfl (fun l e => by cases e) (by decide) (by decide) rfl rfl (wr_of rfl) (d := 8) (d2 := 2) (lv := [(8, .string ⟨#[]⟩), (9, .pointer (some ⟨1, 0, none⟩))]) (bs := [(1, .cells [.int .i64 4, .int .i64 a] 55)]) (W := []) (m := 2) (df := []) ⟨⟨_, rfl, .string _⟩, ⟨_, rfl, .ptr _ _ _ rfl⟩, trivial⟩ ⟨⟨by decide, _, rfl, .same rfl⟩, trivial⟩ .nil) (fun f => hret _ _ f (hinv _ (by rw [hst, hp]; exact .nmo hr h3 h4))))
        · have h4 : ¬ nx > e := of_decide_eq_false h4
          have eS : bs ⟨s.toArray⟩ = s := bs_mk s
          refine And.intro (catOk_of (by rw [eS]; have e9 : (bs (k, i, out).2.2).length = (bs out).length := rfl; omega)) ?_
          refine ⟨(k + 1, nx, catS out ⟨s.toArray⟩), ⟨h1, ⟨q3, by show nx ≤ e; omega⟩, ?_, fun y hy => hinv y (by rw [hst, hp]; exact .nmc hr h3 h4 (by have hy : RfP _ a e (ps.drop (k + 1)) nx (bs (catS out ⟨s.toArray⟩)) y := hy; rw [bs_cat, eS] at hy; exact hy))⟩, ?_, ?_⟩
          · show (bs (catS _ _)).length ≤ (k + 1) * 1001000
            rw [bs_cat, eS, List.length_append]; omega
          · show ps.length - (k + 1) < ps.length - k; omega
          · exact rc_slots [1, 2, 3] rfl rfl rfl (fun l e => by cases e) (by decide) (by decide) rfl rfl (wr_of rfl) ⟨⟨_, rfl, .sl _ _ _ _ _ rfl⟩, ⟨_, rfl, .ptr _ _ _ rfl⟩, ⟨_, rfl, .int _ _⟩, ⟨_, rfl, .ptr _ _ _ rfl⟩, ⟨_, rfl, .sl _ _ _ _ _ rfl⟩, ⟨_, rfl, .int _ _⟩, ⟨_, rfl, .string _⟩, slot_int rfl (by rw [wrapN (by omega) (by omega)]; omega), trivial⟩ ⟨⟨by decide, _, rfl, .sameW (byV_plain l)⟩, ⟨by decide, _, rfl, .same rfl⟩, ⟨by decide, _, rfl, .same rfl⟩, ⟨by decide, _, rfl, (by first | exact .same (intV_plain _) | exact .sameW (intV_plain _))⟩, trivial⟩ .nil
    | all =>
      rw [hp] at hsd
      refine Exists.intro (-3) (And.intro hsd ?_)
      have ew : IntKind.i64.wrap (e - i) = e - i := wrapN (by omega) (by omega)
      have ey : IntKind.i64.wrap (i + IntKind.i64.wrap (e - i)) = e := by rw [ew, wrapN (by omega) (by omega)]; omega
      refine ifK (fun h3 => absurd (of_decide_eq_true h3) (Int.lt_irrefl _)) (fun h3 => ?_)
      refine ifK (fun _ => ?_) (fun h2 => absurd h2 (by simp [inI]; omega))
      refine Exists.intro (-3) (And.intro hsd ?_)
      refine ifK (fun hcu => ?_) (fun hcu => ?_)
      · refine And.intro (by simp only [inLH, Bool.and_eq_true, decide_eq_true_eq]; omega) ?_
        refine Exists.intro ((l.drop (o + i.toNat)).take ((IntKind.i64.wrap (i + IntKind.i64.wrap (e - i))).toNat - i.toNat)) (And.intro (by rw [h1s]; exact srcs i (IntKind.i64.wrap (i + IntKind.i64.wrap (e - i))) (o + i.toNat * (Try.prog.types[5]).size) _ _ hi1 (by omega) (by omega) (.inl (by rw [h1s]; omega)) rfl) ?_)
        have eS : bs ⟨((l.drop (o + i.toNat)).take ((IntKind.i64.wrap (i + IntKind.i64.wrap (e - i))).toNat - i.toNat)).toArray⟩ = ((l.drop (o + i.toNat)).take ((IntKind.i64.wrap (i + IntKind.i64.wrap (e - i))).toNat - i.toNat)) := bs_mk _
        have eL : ((l.drop (o + i.toNat)).take ((IntKind.i64.wrap (i + IntKind.i64.wrap (e - i))).toNat - i.toNat)).length ≤ 1000000 := by rw [List.length_take]; omega
        refine And.intro (catOk_of (by rw [eS]; have e9 : (bs (k, i, out).2.2).length = (bs out).length := rfl; omega)) ?_
        refine ⟨(k + 1, IntKind.i64.wrap (i + IntKind.i64.wrap (e - i)), catS out ⟨((l.drop (o + i.toNat)).take ((IntKind.i64.wrap (i + IntKind.i64.wrap (e - i))).toNat - i.toNat)).toArray⟩), ⟨h1, ⟨by show 0 ≤ IntKind.i64.wrap (i + IntKind.i64.wrap (e - i)); omega, by show IntKind.i64.wrap (i + IntKind.i64.wrap (e - i)) ≤ e; omega⟩, ?_, fun y hy => hinv y (by rw [hst, hp]; refine .all ?_; have hy : RfP _ a e (ps.drop (k + 1)) (IntKind.i64.wrap (i + IntKind.i64.wrap (e - i))) (bs (catS out ⟨((l.drop (o + i.toNat)).take ((IntKind.i64.wrap (i + IntKind.i64.wrap (e - i))).toNat - i.toNat)).toArray⟩)) y := hy; rw [bs_cat, eS, htake _ _ (by omega), ey] at hy; exact hy)⟩, ?_, ?_⟩
        · show (bs (catS _ _)).length ≤ (k + 1) * 1001000
          rw [bs_cat, eS, List.length_append]; omega
        · show ps.length - (k + 1) < ps.length - k; omega
        · exact rc_slots [1, 2, 3] rfl rfl rfl (fun l e => by cases e) (by decide) (by decide) rfl rfl (wr_of rfl) ⟨⟨_, rfl, .sl _ _ _ _ _ rfl⟩, ⟨_, rfl, .ptr _ _ _ rfl⟩, ⟨_, rfl, .int _ _⟩, ⟨_, rfl, .ptr _ _ _ rfl⟩, ⟨_, rfl, .sl _ _ _ _ _ rfl⟩, ⟨_, rfl, .int _ _⟩, ⟨_, rfl, .string _⟩, slot_int rfl (by rw [wrapN (by omega) (by omega)]; omega), trivial⟩ ⟨⟨by decide, _, rfl, .sameW (byV_plain l)⟩, ⟨by decide, _, rfl, .same rfl⟩, ⟨by decide, _, rfl, .same rfl⟩, ⟨by decide, _, rfl, (by first | exact .same (intV_plain _) | exact .sameW (intV_plain _))⟩, trivial⟩ .nil
      · have hcU : c ≠ U := fun e0 => (by subst e0; cases hcu)
        obtain ⟨hc1, hc2⟩ := hcap.resolve_left hcU
        refine And.intro (by simp only [inLH, Bool.and_eq_true, decide_eq_true_eq]; exact ⟨⟨⟨⟨by omega, by omega⟩, by omega⟩, Nat.ble_eq_true_of_le hc1⟩, Nat.ble_eq_true_of_le (by omega)⟩) ?_
        refine Exists.intro ((l.drop (o + i.toNat)).take ((IntKind.i64.wrap (i + IntKind.i64.wrap (e - i))).toNat - i.toNat)) (And.intro (by rw [h1s]; exact srcs i (IntKind.i64.wrap (i + IntKind.i64.wrap (e - i))) (bif c.beq i.toNat then o else o + i.toNat * (Try.prog.types[5]).size) _ _ hi1 (by omega) (by omega) ((by cases hb : c.beq i.toNat with | true => (have hb2 := Nat.eq_of_beq_eq_true hb; exact .inr (by omega)) | false => exact .inl (by rw [cond_false, h1s]; omega))) rfl) ?_)
        have eS : bs ⟨((l.drop (o + i.toNat)).take ((IntKind.i64.wrap (i + IntKind.i64.wrap (e - i))).toNat - i.toNat)).toArray⟩ = ((l.drop (o + i.toNat)).take ((IntKind.i64.wrap (i + IntKind.i64.wrap (e - i))).toNat - i.toNat)) := bs_mk _
        have eL : ((l.drop (o + i.toNat)).take ((IntKind.i64.wrap (i + IntKind.i64.wrap (e - i))).toNat - i.toNat)).length ≤ 1000000 := by rw [List.length_take]; omega
        refine And.intro (catOk_of (by rw [eS]; have e9 : (bs (k, i, out).2.2).length = (bs out).length := rfl; omega)) ?_
        refine ⟨(k + 1, IntKind.i64.wrap (i + IntKind.i64.wrap (e - i)), catS out ⟨((l.drop (o + i.toNat)).take ((IntKind.i64.wrap (i + IntKind.i64.wrap (e - i))).toNat - i.toNat)).toArray⟩), ⟨h1, ⟨by show 0 ≤ IntKind.i64.wrap (i + IntKind.i64.wrap (e - i)); omega, by show IntKind.i64.wrap (i + IntKind.i64.wrap (e - i)) ≤ e; omega⟩, ?_, fun y hy => hinv y (by rw [hst, hp]; refine .all ?_; have hy : RfP _ a e (ps.drop (k + 1)) (IntKind.i64.wrap (i + IntKind.i64.wrap (e - i))) (bs (catS out ⟨((l.drop (o + i.toNat)).take ((IntKind.i64.wrap (i + IntKind.i64.wrap (e - i))).toNat - i.toNat)).toArray⟩)) y := hy; rw [bs_cat, eS, htake _ _ (by omega), ey] at hy; exact hy)⟩, ?_, ?_⟩
        · show (bs (catS _ _)).length ≤ (k + 1) * 1001000
          rw [bs_cat, eS, List.length_append]; omega
        · show ps.length - (k + 1) < ps.length - k; omega
        · exact rc_slots [1, 2, 3] rfl rfl rfl (fun l e => by cases e) (by decide) (by decide) rfl rfl (wr_of rfl) ⟨⟨_, rfl, .sl _ _ _ _ _ rfl⟩, ⟨_, rfl, .ptr _ _ _ rfl⟩, ⟨_, rfl, .int _ _⟩, ⟨_, rfl, .ptr _ _ _ rfl⟩, ⟨_, rfl, .sl _ _ _ _ _ rfl⟩, ⟨_, rfl, .int _ _⟩, ⟨_, rfl, .string _⟩, slot_int rfl (by rw [wrapN (by omega) (by omega)]; omega), trivial⟩ ⟨⟨by decide, _, rfl, .sameW (byV_plain l)⟩, ⟨by decide, _, rfl, .same rfl⟩, ⟨by decide, _, rfl, .same rfl⟩, ⟨by decide, _, rfl, (by first | exact .same (intV_plain _) | exact .sameW (intV_plain _))⟩, trivial⟩ .nil
    | rest =>
      rw [hp] at hsd
      refine Exists.intro (-2) (And.intro hsd ?_)
      have ew : IntKind.i64.wrap (e - i) = e - i := wrapN (by omega) (by omega)
      have ey : IntKind.i64.wrap (i + IntKind.i64.wrap (e - i)) = e := by rw [ew, wrapN (by omega) (by omega)]; omega
      refine ifK (fun h3 => absurd (of_decide_eq_true h3) (Int.lt_irrefl _)) (fun h3 => ?_)
      refine ifK (fun _ => ?_) (fun h2 => absurd h2 (by simp [inI]; omega))
      refine Exists.intro (-2) (And.intro hsd ?_)
      refine ifK (fun hcu => ?_) (fun hcu => ?_)
      · refine And.intro (by simp only [inLH, Bool.and_eq_true, decide_eq_true_eq]; omega) ?_
        refine Exists.intro ((l.drop (o + i.toNat)).take ((e).toNat - i.toNat)) (And.intro (by rw [h1s]; exact srcs i (e) (o + i.toNat * (Try.prog.types[5]).size) _ _ hi1 (by omega) (by omega) (.inl (by rw [h1s]; omega)) rfl) ?_)
        have eS : bs ⟨((l.drop (o + i.toNat)).take ((e).toNat - i.toNat)).toArray⟩ = ((l.drop (o + i.toNat)).take ((e).toNat - i.toNat)) := bs_mk _
        have eL : ((l.drop (o + i.toNat)).take ((e).toNat - i.toNat)).length ≤ 1000000 := by rw [List.length_take]; omega
        refine And.intro (shortB_of (by rw [eS]; omega)) ?_
        refine ifK (fun h4 => ?_) (fun h4 => ?_)
        · have h4 : texts ((l.drop (o + i.toNat)).take ((e).toNat - i.toNat)) = false := by rw [eS] at h4; simpa using h4
          rw [htake _ _ (by omega)] at h4
          refine And.intro ?_ ?_
          · kernel_rfl
          exact And.intro rfl (rc_end (rc_slots [1] rfl rfl rfl (fun l e => by cases e) (by decide) (by decide) rfl rfl (wr_of rfl) (d := 8) (d2 := 2) (lv := [(8, .string ⟨#[]⟩), (9, .pointer (some ⟨1, 0, none⟩))]) (bs := [(1, .cells [.int .i64 4, .int .i64 a] 55)]) (W := []) (m := 2) (df := []) ⟨⟨_, rfl, .string _⟩, ⟨_, rfl, .ptr _ _ _ rfl⟩, trivial⟩ ⟨⟨by decide, _, rfl, .same rfl⟩, trivial⟩ .nil) (fun f => hret _ _ f (hinv _ (by rw [hst, hp]; exact .txb h4))))
        · have h4 : texts ((l.drop (o + i.toNat)).take ((e).toNat - i.toNat)) = true := by rw [eS] at h4; simpa using h4
          rw [htake _ _ (by omega)] at h4
          refine ifK (fun hcu => ?_) (fun hcu => ?_)
          · refine And.intro (by simp only [inLH, Bool.and_eq_true, decide_eq_true_eq]; omega) ?_
            refine Exists.intro ((l.drop (o + i.toNat)).take ((IntKind.i64.wrap (i + IntKind.i64.wrap (e - i))).toNat - i.toNat)) (And.intro (by rw [h1s]; exact srcs i (IntKind.i64.wrap (i + IntKind.i64.wrap (e - i))) (o + i.toNat * (Try.prog.types[5]).size) _ _ hi1 (by omega) (by omega) (.inl (by rw [h1s]; omega)) rfl) ?_)
            have eS : bs ⟨((l.drop (o + i.toNat)).take ((IntKind.i64.wrap (i + IntKind.i64.wrap (e - i))).toNat - i.toNat)).toArray⟩ = ((l.drop (o + i.toNat)).take ((IntKind.i64.wrap (i + IntKind.i64.wrap (e - i))).toNat - i.toNat)) := bs_mk _
            have eL : ((l.drop (o + i.toNat)).take ((IntKind.i64.wrap (i + IntKind.i64.wrap (e - i))).toNat - i.toNat)).length ≤ 1000000 := by rw [List.length_take]; omega
            refine And.intro (catOk_of (by rw [eS]; have e9 : (bs (k, i, out).2.2).length = (bs out).length := rfl; omega)) ?_
            refine ⟨(k + 1, IntKind.i64.wrap (i + IntKind.i64.wrap (e - i)), catS out ⟨((l.drop (o + i.toNat)).take ((IntKind.i64.wrap (i + IntKind.i64.wrap (e - i))).toNat - i.toNat)).toArray⟩), ⟨h1, ⟨by show 0 ≤ IntKind.i64.wrap (i + IntKind.i64.wrap (e - i)); omega, by show IntKind.i64.wrap (i + IntKind.i64.wrap (e - i)) ≤ e; omega⟩, ?_, fun y hy => hinv y (by rw [hst, hp]; refine .txc h4 ?_; have hy : RfP _ a e (ps.drop (k + 1)) (IntKind.i64.wrap (i + IntKind.i64.wrap (e - i))) (bs (catS out ⟨((l.drop (o + i.toNat)).take ((IntKind.i64.wrap (i + IntKind.i64.wrap (e - i))).toNat - i.toNat)).toArray⟩)) y := hy; rw [bs_cat, eS, htake _ _ (by omega), ey] at hy; exact hy)⟩, ?_, ?_⟩
            · show (bs (catS _ _)).length ≤ (k + 1) * 1001000
              rw [bs_cat, eS, List.length_append]; omega
            · show ps.length - (k + 1) < ps.length - k; omega
            · exact rc_slots [1, 2, 3] rfl rfl rfl (fun l e => by cases e) (by decide) (by decide) rfl rfl (wr_of rfl) ⟨⟨_, rfl, .sl _ _ _ _ _ rfl⟩, ⟨_, rfl, .ptr _ _ _ rfl⟩, ⟨_, rfl, .int _ _⟩, ⟨_, rfl, .ptr _ _ _ rfl⟩, ⟨_, rfl, .sl _ _ _ _ _ rfl⟩, ⟨_, rfl, .int _ _⟩, ⟨_, rfl, .string _⟩, slot_int rfl (by rw [wrapN (by omega) (by omega)]; omega), trivial⟩ ⟨⟨by decide, _, rfl, .sameW (byV_plain l)⟩, ⟨by decide, _, rfl, .same rfl⟩, ⟨by decide, _, rfl, .same rfl⟩, ⟨by decide, _, rfl, (by first | exact .same (intV_plain _) | exact .sameW (intV_plain _))⟩, trivial⟩ .nil
          · have hcU : c ≠ U := fun e0 => (by subst e0; cases hcu)
            obtain ⟨hc1, hc2⟩ := hcap.resolve_left hcU
            refine And.intro (by simp only [inLH, Bool.and_eq_true, decide_eq_true_eq]; exact ⟨⟨⟨⟨by omega, by omega⟩, by omega⟩, Nat.ble_eq_true_of_le hc1⟩, Nat.ble_eq_true_of_le (by omega)⟩) ?_
            refine Exists.intro ((l.drop (o + i.toNat)).take ((IntKind.i64.wrap (i + IntKind.i64.wrap (e - i))).toNat - i.toNat)) (And.intro (by rw [h1s]; exact srcs i (IntKind.i64.wrap (i + IntKind.i64.wrap (e - i))) (bif c.beq i.toNat then o else o + i.toNat * (Try.prog.types[5]).size) _ _ hi1 (by omega) (by omega) ((by cases hb : c.beq i.toNat with | true => (have hb2 := Nat.eq_of_beq_eq_true hb; exact .inr (by omega)) | false => exact .inl (by rw [cond_false, h1s]; omega))) rfl) ?_)
            have eS : bs ⟨((l.drop (o + i.toNat)).take ((IntKind.i64.wrap (i + IntKind.i64.wrap (e - i))).toNat - i.toNat)).toArray⟩ = ((l.drop (o + i.toNat)).take ((IntKind.i64.wrap (i + IntKind.i64.wrap (e - i))).toNat - i.toNat)) := bs_mk _
            have eL : ((l.drop (o + i.toNat)).take ((IntKind.i64.wrap (i + IntKind.i64.wrap (e - i))).toNat - i.toNat)).length ≤ 1000000 := by rw [List.length_take]; omega
            refine And.intro (catOk_of (by rw [eS]; have e9 : (bs (k, i, out).2.2).length = (bs out).length := rfl; omega)) ?_
            refine ⟨(k + 1, IntKind.i64.wrap (i + IntKind.i64.wrap (e - i)), catS out ⟨((l.drop (o + i.toNat)).take ((IntKind.i64.wrap (i + IntKind.i64.wrap (e - i))).toNat - i.toNat)).toArray⟩), ⟨h1, ⟨by show 0 ≤ IntKind.i64.wrap (i + IntKind.i64.wrap (e - i)); omega, by show IntKind.i64.wrap (i + IntKind.i64.wrap (e - i)) ≤ e; omega⟩, ?_, fun y hy => hinv y (by rw [hst, hp]; refine .txc h4 ?_; have hy : RfP _ a e (ps.drop (k + 1)) (IntKind.i64.wrap (i + IntKind.i64.wrap (e - i))) (bs (catS out ⟨((l.drop (o + i.toNat)).take ((IntKind.i64.wrap (i + IntKind.i64.wrap (e - i))).toNat - i.toNat)).toArray⟩)) y := hy; rw [bs_cat, eS, htake _ _ (by omega), ey] at hy; exact hy)⟩, ?_, ?_⟩
            · show (bs (catS _ _)).length ≤ (k + 1) * 1001000
              rw [bs_cat, eS, List.length_append]; omega
            · show ps.length - (k + 1) < ps.length - k; omega
            · exact rc_slots [1, 2, 3] rfl rfl rfl (fun l e => by cases e) (by decide) (by decide) rfl rfl (wr_of rfl) ⟨⟨_, rfl, .sl _ _ _ _ _ rfl⟩, ⟨_, rfl, .ptr _ _ _ rfl⟩, ⟨_, rfl, .int _ _⟩, ⟨_, rfl, .ptr _ _ _ rfl⟩, ⟨_, rfl, .sl _ _ _ _ _ rfl⟩, ⟨_, rfl, .int _ _⟩, ⟨_, rfl, .string _⟩, slot_int rfl (by rw [wrapN (by omega) (by omega)]; omega), trivial⟩ ⟨⟨by decide, _, rfl, .sameW (byV_plain l)⟩, ⟨by decide, _, rfl, .same rfl⟩, ⟨by decide, _, rfl, .same rfl⟩, ⟨by decide, _, rfl, (by first | exact .same (intV_plain _) | exact .sameW (intV_plain _))⟩, trivial⟩ .nil
      · have hcU : c ≠ U := fun e0 => (by subst e0; cases hcu)
        obtain ⟨hc1, hc2⟩ := hcap.resolve_left hcU
        refine And.intro (by simp only [inLH, Bool.and_eq_true, decide_eq_true_eq]; exact ⟨⟨⟨⟨by omega, by omega⟩, by omega⟩, Nat.ble_eq_true_of_le hc1⟩, Nat.ble_eq_true_of_le (by omega)⟩) ?_
        refine Exists.intro ((l.drop (o + i.toNat)).take ((e).toNat - i.toNat)) (And.intro (by rw [h1s]; exact srcs i (e) (bif c.beq i.toNat then o else o + i.toNat * (Try.prog.types[5]).size) _ _ hi1 (by omega) (by omega) ((by cases hb : c.beq i.toNat with | true => (have hb2 := Nat.eq_of_beq_eq_true hb; exact .inr (by omega)) | false => exact .inl (by rw [cond_false, h1s]; omega))) rfl) ?_)
        have eS : bs ⟨((l.drop (o + i.toNat)).take ((e).toNat - i.toNat)).toArray⟩ = ((l.drop (o + i.toNat)).take ((e).toNat - i.toNat)) := bs_mk _
        have eL : ((l.drop (o + i.toNat)).take ((e).toNat - i.toNat)).length ≤ 1000000 := by rw [List.length_take]; omega
        refine And.intro (shortB_of (by rw [eS]; omega)) ?_
        refine ifK (fun h4 => ?_) (fun h4 => ?_)
        · have h4 : texts ((l.drop (o + i.toNat)).take ((e).toNat - i.toNat)) = false := by rw [eS] at h4; simpa using h4
          rw [htake _ _ (by omega)] at h4
          refine And.intro ?_ ?_
          · kernel_rfl
          exact And.intro rfl (rc_end (rc_slots [1] rfl rfl rfl (fun l e => by cases e) (by decide) (by decide) rfl rfl (wr_of rfl) (d := 8) (d2 := 2) (lv := [(8, .string ⟨#[]⟩), (9, .pointer (some ⟨1, 0, none⟩))]) (bs := [(1, .cells [.int .i64 4, .int .i64 a] 55)]) (W := []) (m := 2) (df := []) ⟨⟨_, rfl, .string _⟩, ⟨_, rfl, .ptr _ _ _ rfl⟩, trivial⟩ ⟨⟨by decide, _, rfl, .same rfl⟩, trivial⟩ .nil) (fun f => hret _ _ f (hinv _ (by rw [hst, hp]; exact .txb h4))))
        · have h4 : texts ((l.drop (o + i.toNat)).take ((e).toNat - i.toNat)) = true := by rw [eS] at h4; simpa using h4
          rw [htake _ _ (by omega)] at h4
          refine ifK (fun hcu => ?_) (fun hcu => ?_)
          · refine And.intro (by simp only [inLH, Bool.and_eq_true, decide_eq_true_eq]; omega) ?_
            refine Exists.intro ((l.drop (o + i.toNat)).take ((IntKind.i64.wrap (i + IntKind.i64.wrap (e - i))).toNat - i.toNat)) (And.intro (by rw [h1s]; exact srcs i (IntKind.i64.wrap (i + IntKind.i64.wrap (e - i))) (o + i.toNat * (Try.prog.types[5]).size) _ _ hi1 (by omega) (by omega) (.inl (by rw [h1s]; omega)) rfl) ?_)
            have eS : bs ⟨((l.drop (o + i.toNat)).take ((IntKind.i64.wrap (i + IntKind.i64.wrap (e - i))).toNat - i.toNat)).toArray⟩ = ((l.drop (o + i.toNat)).take ((IntKind.i64.wrap (i + IntKind.i64.wrap (e - i))).toNat - i.toNat)) := bs_mk _
            have eL : ((l.drop (o + i.toNat)).take ((IntKind.i64.wrap (i + IntKind.i64.wrap (e - i))).toNat - i.toNat)).length ≤ 1000000 := by rw [List.length_take]; omega
            refine And.intro (catOk_of (by rw [eS]; have e9 : (bs (k, i, out).2.2).length = (bs out).length := rfl; omega)) ?_
            refine ⟨(k + 1, IntKind.i64.wrap (i + IntKind.i64.wrap (e - i)), catS out ⟨((l.drop (o + i.toNat)).take ((IntKind.i64.wrap (i + IntKind.i64.wrap (e - i))).toNat - i.toNat)).toArray⟩), ⟨h1, ⟨by show 0 ≤ IntKind.i64.wrap (i + IntKind.i64.wrap (e - i)); omega, by show IntKind.i64.wrap (i + IntKind.i64.wrap (e - i)) ≤ e; omega⟩, ?_, fun y hy => hinv y (by rw [hst, hp]; refine .txc h4 ?_; have hy : RfP _ a e (ps.drop (k + 1)) (IntKind.i64.wrap (i + IntKind.i64.wrap (e - i))) (bs (catS out ⟨((l.drop (o + i.toNat)).take ((IntKind.i64.wrap (i + IntKind.i64.wrap (e - i))).toNat - i.toNat)).toArray⟩)) y := hy; rw [bs_cat, eS, htake _ _ (by omega), ey] at hy; exact hy)⟩, ?_, ?_⟩
            · show (bs (catS _ _)).length ≤ (k + 1) * 1001000
              rw [bs_cat, eS, List.length_append]; omega
            · show ps.length - (k + 1) < ps.length - k; omega
            · exact rc_slots [1, 2, 3] rfl rfl rfl (fun l e => by cases e) (by decide) (by decide) rfl rfl (wr_of rfl) ⟨⟨_, rfl, .sl _ _ _ _ _ rfl⟩, ⟨_, rfl, .ptr _ _ _ rfl⟩, ⟨_, rfl, .int _ _⟩, ⟨_, rfl, .ptr _ _ _ rfl⟩, ⟨_, rfl, .sl _ _ _ _ _ rfl⟩, ⟨_, rfl, .int _ _⟩, ⟨_, rfl, .string _⟩, slot_int rfl (by rw [wrapN (by omega) (by omega)]; omega), trivial⟩ ⟨⟨by decide, _, rfl, .sameW (byV_plain l)⟩, ⟨by decide, _, rfl, .same rfl⟩, ⟨by decide, _, rfl, .same rfl⟩, ⟨by decide, _, rfl, (by first | exact .same (intV_plain _) | exact .sameW (intV_plain _))⟩, trivial⟩ .nil
          · have hcU : c ≠ U := fun e0 => (by subst e0; cases hcu)
            obtain ⟨hc1, hc2⟩ := hcap.resolve_left hcU
            refine And.intro (by simp only [inLH, Bool.and_eq_true, decide_eq_true_eq]; exact ⟨⟨⟨⟨by omega, by omega⟩, by omega⟩, Nat.ble_eq_true_of_le hc1⟩, Nat.ble_eq_true_of_le (by omega)⟩) ?_
            refine Exists.intro ((l.drop (o + i.toNat)).take ((IntKind.i64.wrap (i + IntKind.i64.wrap (e - i))).toNat - i.toNat)) (And.intro (by rw [h1s]; exact srcs i (IntKind.i64.wrap (i + IntKind.i64.wrap (e - i))) (bif c.beq i.toNat then o else o + i.toNat * (Try.prog.types[5]).size) _ _ hi1 (by omega) (by omega) ((by cases hb : c.beq i.toNat with | true => (have hb2 := Nat.eq_of_beq_eq_true hb; exact .inr (by omega)) | false => exact .inl (by rw [cond_false, h1s]; omega))) rfl) ?_)
            have eS : bs ⟨((l.drop (o + i.toNat)).take ((IntKind.i64.wrap (i + IntKind.i64.wrap (e - i))).toNat - i.toNat)).toArray⟩ = ((l.drop (o + i.toNat)).take ((IntKind.i64.wrap (i + IntKind.i64.wrap (e - i))).toNat - i.toNat)) := bs_mk _
            have eL : ((l.drop (o + i.toNat)).take ((IntKind.i64.wrap (i + IntKind.i64.wrap (e - i))).toNat - i.toNat)).length ≤ 1000000 := by rw [List.length_take]; omega
            refine And.intro (catOk_of (by rw [eS]; have e9 : (bs (k, i, out).2.2).length = (bs out).length := rfl; omega)) ?_
            refine ⟨(k + 1, IntKind.i64.wrap (i + IntKind.i64.wrap (e - i)), catS out ⟨((l.drop (o + i.toNat)).take ((IntKind.i64.wrap (i + IntKind.i64.wrap (e - i))).toNat - i.toNat)).toArray⟩), ⟨h1, ⟨by show 0 ≤ IntKind.i64.wrap (i + IntKind.i64.wrap (e - i)); omega, by show IntKind.i64.wrap (i + IntKind.i64.wrap (e - i)) ≤ e; omega⟩, ?_, fun y hy => hinv y (by rw [hst, hp]; refine .txc h4 ?_; have hy : RfP _ a e (ps.drop (k + 1)) (IntKind.i64.wrap (i + IntKind.i64.wrap (e - i))) (bs (catS out ⟨((l.drop (o + i.toNat)).take ((IntKind.i64.wrap (i + IntKind.i64.wrap (e - i))).toNat - i.toNat)).toArray⟩)) y := hy; rw [bs_cat, eS, htake _ _ (by omega), ey] at hy; exact hy)⟩, ?_, ?_⟩
            · show (bs (catS _ _)).length ≤ (k + 1) * 1001000
              rw [bs_cat, eS, List.length_append]; omega
            · show ps.length - (k + 1) < ps.length - k; omega
            · exact rc_slots [1, 2, 3] rfl rfl rfl (fun l e => by cases e) (by decide) (by decide) rfl rfl (wr_of rfl) ⟨⟨_, rfl, .sl _ _ _ _ _ rfl⟩, ⟨_, rfl, .ptr _ _ _ rfl⟩, ⟨_, rfl, .int _ _⟩, ⟨_, rfl, .ptr _ _ _ rfl⟩, ⟨_, rfl, .sl _ _ _ _ _ rfl⟩, ⟨_, rfl, .int _ _⟩, ⟨_, rfl, .string _⟩, slot_int rfl (by rw [wrapN (by omega) (by omega)]; omega), trivial⟩ ⟨⟨by decide, _, rfl, .sameW (byV_plain l)⟩, ⟨by decide, _, rfl, .same rfl⟩, ⟨by decide, _, rfl, .same rfl⟩, ⟨by decide, _, rfl, (by first | exact .same (intV_plain _) | exact .sameW (intV_plain _))⟩, trivial⟩ .nil
    | sz z =>
      rw [hp] at hsd
      refine Exists.intro (z : Int) (And.intro hsd ?_)
      have ew : IntKind.i64.wrap (e - i) = e - i := wrapN (by omega) (by omega)
      refine ifK (fun h3 => ?_) (fun h3 => ?_)
      · have h3 : (z : Int) > e - i := by have h3 := of_decide_eq_true h3; rw [ew] at h3; exact h3
        refine And.intro ?_ ?_
        · kernel_rfl
        exact And.intro rfl (rc_end (rc_slots [1] rfl rfl rfl (fun l e => by cases e) (by decide) (by decide) rfl rfl (wr_of rfl) (d := 8) (d2 := 2) (lv := [(8, .string ⟨#[]⟩), (9, .pointer (some ⟨1, 0, none⟩))]) (bs := [(1, .cells [.int .i64 4, .int .i64 a] 55)]) (W := []) (m := 2) (df := []) ⟨⟨_, rfl, .string _⟩, ⟨_, rfl, .ptr _ _ _ rfl⟩, trivial⟩ ⟨⟨by decide, _, rfl, .same rfl⟩, trivial⟩ .nil) (fun f => hret _ _ f (hinv _ (by rw [hst, hp]; exact .szb h3))))
      have h3 : ¬ (z : Int) > e - i := by have h3 := of_decide_eq_false h3; rw [ew] at h3; exact h3
      have ey : IntKind.i64.wrap (i + (z : Int)) = i + z := wrapN (by omega) (by omega)
      refine ifK (fun _ => ?_) (fun h2 => absurd h2 (by simp [inI]; omega))
      refine Exists.intro (z : Int) (And.intro hsd ?_)
      refine ifK (fun hcu => ?_) (fun hcu => ?_)
      · refine And.intro (by simp only [inLH, Bool.and_eq_true, decide_eq_true_eq]; omega) ?_
        refine Exists.intro ((l.drop (o + i.toNat)).take ((IntKind.i64.wrap (i + (z : Int))).toNat - i.toNat)) (And.intro (by rw [h1s]; exact srcs i (IntKind.i64.wrap (i + (z : Int))) (o + i.toNat * (Try.prog.types[5]).size) _ _ hi1 (by omega) (by omega) (.inl (by rw [h1s]; omega)) rfl) ?_)
        have eS : bs ⟨((l.drop (o + i.toNat)).take ((IntKind.i64.wrap (i + (z : Int))).toNat - i.toNat)).toArray⟩ = ((l.drop (o + i.toNat)).take ((IntKind.i64.wrap (i + (z : Int))).toNat - i.toNat)) := bs_mk _
        have eL : ((l.drop (o + i.toNat)).take ((IntKind.i64.wrap (i + (z : Int))).toNat - i.toNat)).length ≤ 1000000 := by rw [List.length_take]; omega
        refine And.intro (catOk_of (by rw [eS]; have e9 : (bs (k, i, out).2.2).length = (bs out).length := rfl; omega)) ?_
        refine ⟨(k + 1, IntKind.i64.wrap (i + (z : Int)), catS out ⟨((l.drop (o + i.toNat)).take ((IntKind.i64.wrap (i + (z : Int))).toNat - i.toNat)).toArray⟩), ⟨h1, ⟨by show 0 ≤ IntKind.i64.wrap (i + (z : Int)); omega, by show IntKind.i64.wrap (i + (z : Int)) ≤ e; omega⟩, ?_, fun y hy => hinv y (by rw [hst, hp]; refine .szc h3 ?_; have hy : RfP _ a e (ps.drop (k + 1)) (IntKind.i64.wrap (i + (z : Int))) (bs (catS out ⟨((l.drop (o + i.toNat)).take ((IntKind.i64.wrap (i + (z : Int))).toNat - i.toNat)).toArray⟩)) y := hy; rw [bs_cat, eS, htake _ _ (by omega), ey] at hy; exact hy)⟩, ?_, ?_⟩
        · show (bs (catS _ _)).length ≤ (k + 1) * 1001000
          rw [bs_cat, eS, List.length_append]; omega
        · show ps.length - (k + 1) < ps.length - k; omega
        · exact rc_slots [1, 2, 3] rfl rfl rfl (fun l e => by cases e) (by decide) (by decide) rfl rfl (wr_of rfl) ⟨⟨_, rfl, .sl _ _ _ _ _ rfl⟩, ⟨_, rfl, .ptr _ _ _ rfl⟩, ⟨_, rfl, .int _ _⟩, ⟨_, rfl, .ptr _ _ _ rfl⟩, ⟨_, rfl, .sl _ _ _ _ _ rfl⟩, ⟨_, rfl, .int _ _⟩, ⟨_, rfl, .string _⟩, slot_int rfl (by rw [wrapN (by omega) (by omega)]; omega), trivial⟩ ⟨⟨by decide, _, rfl, .sameW (byV_plain l)⟩, ⟨by decide, _, rfl, .same rfl⟩, ⟨by decide, _, rfl, .same rfl⟩, ⟨by decide, _, rfl, (by first | exact .same (intV_plain _) | exact .sameW (intV_plain _))⟩, trivial⟩ .nil
      · have hcU : c ≠ U := fun e0 => (by subst e0; cases hcu)
        obtain ⟨hc1, hc2⟩ := hcap.resolve_left hcU
        refine And.intro (by simp only [inLH, Bool.and_eq_true, decide_eq_true_eq]; exact ⟨⟨⟨⟨by omega, by omega⟩, by omega⟩, Nat.ble_eq_true_of_le hc1⟩, Nat.ble_eq_true_of_le (by omega)⟩) ?_
        refine Exists.intro ((l.drop (o + i.toNat)).take ((IntKind.i64.wrap (i + (z : Int))).toNat - i.toNat)) (And.intro (by rw [h1s]; exact srcs i (IntKind.i64.wrap (i + (z : Int))) (bif c.beq i.toNat then o else o + i.toNat * (Try.prog.types[5]).size) _ _ hi1 (by omega) (by omega) ((by cases hb : c.beq i.toNat with | true => (have hb2 := Nat.eq_of_beq_eq_true hb; exact .inr (by omega)) | false => exact .inl (by rw [cond_false, h1s]; omega))) rfl) ?_)
        have eS : bs ⟨((l.drop (o + i.toNat)).take ((IntKind.i64.wrap (i + (z : Int))).toNat - i.toNat)).toArray⟩ = ((l.drop (o + i.toNat)).take ((IntKind.i64.wrap (i + (z : Int))).toNat - i.toNat)) := bs_mk _
        have eL : ((l.drop (o + i.toNat)).take ((IntKind.i64.wrap (i + (z : Int))).toNat - i.toNat)).length ≤ 1000000 := by rw [List.length_take]; omega
        refine And.intro (catOk_of (by rw [eS]; have e9 : (bs (k, i, out).2.2).length = (bs out).length := rfl; omega)) ?_
        refine ⟨(k + 1, IntKind.i64.wrap (i + (z : Int)), catS out ⟨((l.drop (o + i.toNat)).take ((IntKind.i64.wrap (i + (z : Int))).toNat - i.toNat)).toArray⟩), ⟨h1, ⟨by show 0 ≤ IntKind.i64.wrap (i + (z : Int)); omega, by show IntKind.i64.wrap (i + (z : Int)) ≤ e; omega⟩, ?_, fun y hy => hinv y (by rw [hst, hp]; refine .szc h3 ?_; have hy : RfP _ a e (ps.drop (k + 1)) (IntKind.i64.wrap (i + (z : Int))) (bs (catS out ⟨((l.drop (o + i.toNat)).take ((IntKind.i64.wrap (i + (z : Int))).toNat - i.toNat)).toArray⟩)) y := hy; rw [bs_cat, eS, htake _ _ (by omega), ey] at hy; exact hy)⟩, ?_, ?_⟩
        · show (bs (catS _ _)).length ≤ (k + 1) * 1001000
          rw [bs_cat, eS, List.length_append]; omega
        · show ps.length - (k + 1) < ps.length - k; omega
        · exact rc_slots [1, 2, 3] rfl rfl rfl (fun l e => by cases e) (by decide) (by decide) rfl rfl (wr_of rfl) ⟨⟨_, rfl, .sl _ _ _ _ _ rfl⟩, ⟨_, rfl, .ptr _ _ _ rfl⟩, ⟨_, rfl, .int _ _⟩, ⟨_, rfl, .ptr _ _ _ rfl⟩, ⟨_, rfl, .sl _ _ _ _ _ rfl⟩, ⟨_, rfl, .int _ _⟩, ⟨_, rfl, .string _⟩, slot_int rfl (by rw [wrapN (by omega) (by omega)]; omega), trivial⟩ ⟨⟨by decide, _, rfl, .sameW (byV_plain l)⟩, ⟨by decide, _, rfl, .same rfl⟩, ⟨by decide, _, rfl, .same rfl⟩, ⟨by decide, _, rfl, (by first | exact .same (intV_plain _) | exact .sameW (intV_plain _))⟩, trivial⟩ .nil
  · have h1 : ¬ k < ps.length := by have := of_decide_eq_false h1; omega
    exact And.intro rfl (rc_end (rc_slots [1, 2] rfl rfl rfl (fun l e => by cases e) (by decide) (by decide) rfl rfl (wr_of rfl) (d := 8) (d2 := 3) (lv := [(9, .pointer (some ⟨1, 0, none⟩)), (11, .int .i64 e), (13, .pointer (some ⟨2, 0, none⟩)), (15, .int .i64 i), (16, .string out)]) (bs := [(1, .cells [.int .i64 0, .int .i64 0] 55), (2, .cells [.int .i64 4, .int .i64 a] 55)]) (W := []) (m := 3) (df := []) ⟨⟨_, rfl, .ptr _ _ _ rfl⟩, ⟨_, rfl, .int _ _⟩, ⟨_, rfl, .ptr _ _ _ rfl⟩, ⟨_, rfl, .int _ _⟩, ⟨_, rfl, .string _⟩, trivial⟩ ⟨⟨by decide, _, rfl, .same rfl⟩, ⟨by decide, _, rfl, .same rfl⟩, trivial⟩ .nil) (fun f => hex _ _ f (fun y hy => hinv y (by rw [show ps.drop k = [] from List.drop_eq_nil_of_le (by omega)]; exact hy))))
end Go.Proofs.Ytmpaeabkdhjamaa
/- DERIVED. Data: Read, by the document, whole. -/
namespace Go.Proofs.Ytmpaeabkdhjamaa
open Go Go.RowKit
set_option maxRecDepth 1000000 in
set_option maxHeartbeats 4000000 in
theorem rfread_fn (l : Bl) (o n c : Nat) (a z t : Int) (h : o + n ≤ l.length) (hn : n ≤ 1000000) (hcap : c = U ∨ n ≤ c ∧ c ≤ 9223372036854775807) : ∃ r, FnS Try.prog 0 57 [.slice (some ⟨0, o, none⟩) n c, .int .i64 a, .int .i64 z, .int .i64 t] (heap 1 [(0, .win (l.map byV) 1)]) 1 r ∧ rrR ((l.drop o).take n) a z t r := by
  have h1s : (Try.prog.types[5]).size = 1 := by kernel_rfl
  obtain ⟨p1, p2, _⟩ := prT_form t
  have p3 : (prT t).length < 900 := by unfold prT; repeat' split
                                       all_goals decide
  have p4 : (formL t).length = (prT t).length := by rw [p1, List.length_map]
  refine fn_sx mixed tbD10 [0] Try.func57 (c := bodyOf Try.f57) (by kernel_rfl) ?_
  refine ifK (fun g => ?_) (fun h1 => ?_)
  · exact ⟨([], 2, 0), _, _, _, rfl, wr_ge rfl, rdQ_arg (.inl (of_decide_eq_true g))⟩
  refine ifK (fun g => ?_) (fun h2 => ?_)
  · exact ⟨([], 2, 0), _, _, _, rfl, wr_ge rfl, rdQ_arg (.inr (.inl (of_decide_eq_true g)))⟩
  refine ifK (fun g => ?_) (fun h3 => ?_)
  · exact ⟨([], 2, 0), _, _, _, rfl, wr_ge rfl, rdQ_arg (.inr (.inr (.inl (of_decide_eq_true g))))⟩
  refine ifK (fun g => ?_) (fun h4 => ?_)
  · exact ⟨([], 2, 0), _, _, _, rfl, wr_ge rfl, rdQ_arg (.inr (.inr (.inr (of_decide_eq_true g))))⟩
  have hN1 : ¬ (t < 0 ∨ t > 65535 ∨ z < 0 ∨ z > 65535) := by have q1 := of_decide_eq_false h1; have q2 := of_decide_eq_false h2; have q3 := of_decide_eq_false h3; have q4 := of_decide_eq_false h4; omega
  refine Exists.intro (⟨0, o, n, c, l⟩, a, z) (And.intro ⟨rfl, ⟨rfl, h⟩, (by show n ≤ 1000000000; omega), hcap⟩ ?_)
  refine ifK (fun g => absurd (show z < 0 from of_decide_eq_true g) (by omega)) (fun _ => ?_)
  refine ifK (fun g => ?_) (fun h5 => ?_)
  · refine And.intro ?_ ?_
    · kernel_rfl
    exact ⟨([], 5, 0), _, _, _, rfl, wr_ge rfl, rdQ_range hN1 (by rw [lenB h]; simpa using g)⟩
  have h5 : ¬ (a < 0 ∨ a > (n : Int)) := fun q => by have h5 : (decide (a < 0) || decide (a > (n : Int))) = false := h5; simp at h5; omega
  have hN2 : ¬ (a < 0 ∨ a > (((l.drop o).take n).length : Int)) := by rw [lenB h]; omega
  refine ifK (fun g => ?_) (fun h7 => ?_)
  · refine And.intro ?_ ?_
    · kernel_rfl
    exact ⟨([], 4, (n : Int)), _, _, _, rfl, wr_ge rfl, rdQ_short hN1 hN2 (lenB h) (of_decide_eq_true g)⟩
  have h7 : ¬ (n : Int) - a < z := of_decide_eq_false h7
  have hN3 : ¬ (((l.drop o).take n).length : Int) - a < z := by rw [lenB h]; exact h7
  refine ifK (fun _ => ?_) (fun _ => ?_)
  all_goals
    refine rf_loop l o n c a (a + z) (prT t) (by omega) h hn hcap ⟨by omega, by omega, by omega⟩ (rc_slots [1, 4, 5] rfl rfl rfl (fun l e => by cases e) (by decide) (by decide) rfl rfl (wr_of rfl) ⟨⟨_, rfl, .sl _ _ _ _ _ rfl⟩, ⟨_, rfl, .ptr _ _ _ rfl⟩, ⟨_, rfl, .int _ _⟩, ⟨_, rfl, .ptr _ _ _ rfl⟩, ⟨_, rfl, by rw [← p4]; exact .sl _ _ _ _ _ rfl⟩, ⟨_, rfl, .int _ _⟩, ⟨_, rfl, .string _⟩, ⟨_, rfl, .int _ _⟩, trivial⟩ ⟨⟨by decide, _, rfl, .sameW (byV_plain l)⟩, ⟨by decide, _, rfl, .same rfl⟩, ⟨by decide, _, rfl, .same rfl⟩, ⟨by decide, _, rfl, by rw [← p1]; exact .same (intV_plain _)⟩, trivial⟩ .nil) (fun er pos f w4 => ?_) (fun i out f hO => ?_)
    · exact ⟨_, _, _, _, rfl, wr_ge rfl, RfP.q hN1 hN2 hN3 w4⟩
    · refine ifK (fun g => ?_) (fun h8 => ?_)
      · refine And.intro ?_ ?_
        · kernel_rfl
        exact ⟨([], 4, a), _, _, _, rfl, wr_ge rfl, RfP.q hN1 hN2 hN3 (hO _ (.off (fun q => by rw [q] at g; simp at g)))⟩
      · have h8 : i = a + z := by simpa using h8
        exact ⟨(bs out, 0, 0), _, _, _, (by show _ = Res.ret (.tuple #[str (bs out), .agg #[.int .i64 0, .int .i64 0]]) _ _ _; rw [← str_mk out]; first | done | rfl), wr_ge rfl, RfP.q hN1 hN2 hN3 (hO _ (.fin h8))⟩
noncomputable def cq_rfread : CtQ Try.prog :=
  { f := 57, X := RdB × Int × Int × Int, pre := fun x a H _ => a = [x.1.sl, .int .i64 x.2.1, .int .i64 x.2.2.1, .int .i64 x.2.2.2] ∧ x.1.at H ∧ x.1.n ≤ 1000000 ∧ (x.1.c = U ∨ x.1.n ≤ x.1.c ∧ x.1.c ≤ 9223372036854775807), Q := fun x v => ∃ y, v = rdV y ∧ rdQ x.1.B x.2.1 x.2.2.1 x.2.2.2 y,
    ok := fun ⟨⟨b, o, n, c, l⟩, i, z, t⟩ a H m ⟨h1, h2, h3, h4⟩ => by
      subst h1
      obtain ⟨r, hF, y, H', m', wr, rfl, hw, hq⟩ := rfread_fn l o n c i z t h2.2 h3 h4
      exact ⟨rdV y, callOK_reads [b] hF hw dup_one (.cons _ _ _ _ (.sl _ _ _ _ _ rfl) (plain_rl rfl)) (rd_blocks h2.1 (byV_plain l)) rfl, y, rfl, hq⟩,
    uniq := fun ⟨x, i, z, t⟩ ⟨y, i', z', t'⟩ a H m ⟨h1, h2, _⟩ ⟨k1, k2, _⟩ => by
      rw [h1] at k1
      simp only [List.cons.injEq, Value.int.injEq, true_and, and_true] at k1
      obtain ⟨e1, rfl, rfl, rfl⟩ := k1
      rw [RdB.uniq e1 h2 k2] }
/-- ostiaryref06.Read, its result by parts. -/
noncomputable def ct_rfreadY : Ct Try.prog 0 := cq_rfread.ctY (Bs × Int × Int) rdV (fun (x : RdB × Int × Int × Int) y => rdQ x.1.B x.2.1 x.2.2.1 x.2.2.2 y) (fun _ _ h => h)
end Go.Proofs.Ytmpaeabkdhjamaa
/- DERIVED. Records: Read, Question, by the document. -/
namespace Go.Proofs.Ytmpaeabkdhjamaa
open Go Go.RowKit
noncomputable def baseR10 : List (Ct Try.prog 0) := [ct_rreadY, ct_rget16, ct_rget32, ct_rfreadY]
noncomputable def inl_rq : Ct Try.prog 0 := Ct.inl (tbOf mixed baseR10) mixed [0] 30 Try.f30 Try.func30 (bodyOf Try.f30) (by kernel_rfl)
noncomputable def tbR10 : Tb Try.prog 0 := tbOf mixed (inl_rq :: baseR10)
set_option maxRecDepth 1000000 in
set_option maxHeartbeats 4000000 in
theorem rquestion_fn (l : Bl) (o n c : Nat) (i : Int) (h : o + n ≤ l.length) (hn : n ≤ 1000000) (hcap : c = U ∨ n ≤ c ∧ c ≤ 9223372036854775807) : ∃ r, FnS Try.prog 0 30 [.slice (some ⟨0, o, none⟩) n c, .int .i64 i] (heap 1 [(0, .win (l.map byV) 1)]) 1 r ∧ ∃ v H m wr, r = .ret v H m wr ∧ (∀ k ∈ wr, 1 ≤ k) ∧ plainV 8 v = true ∧ queQ ((l.drop o).take n) i v := by
  have hB := lenB h
  have htake : ∀ j m : Nat, j + m ≤ n → numAt ((l.drop o).take n) j m = beN ((l.drop (o + j)).take m) := fun j m hjm => by unfold numAt; rw [List.drop_take, List.take_take, List.drop_drop, Nat.min_eq_left (by omega)]
  refine fn_sx mixed tbR10 [0] Try.func30 (c := bodyOf Try.f30) (by kernel_rfl) ?_
  refine Exists.intro (⟨0, o, n, c, l⟩, i) (And.intro ⟨rfl, ⟨rfl, h⟩, (by show n ≤ _; omega), hcap⟩ ?_)
  intro r hr
  obtain ⟨s, nx, e, pos⟩ := r
  have hr : rdOk ((l.drop o).take n) i ⟨s, nx, e, pos⟩ := hr
  refine ifK (fun g => ?_) (fun g => ?_)
  · have g : e ≠ 0 := by simpa using g
    refine And.intro ?_ ?_
    · kernel_rfl
    exact ⟨queBad e pos, _, _, _, rfl, wr_ge rfl, rfl, .name hr g⟩
  have g : e = 0 := by simpa using g
  subst g
  obtain ⟨q1, q2, _⟩ := hr.fine.2 rfl
  have q1 : 0 ≤ nx := q1
  have q2 : nx ≤ (((l.drop o).take n).length : Int) := q2
  rw [hB] at q2
  obtain ⟨k, rfl⟩ := Int.eq_ofNat_of_zero_le q1
  refine Exists.intro (⟨0, o, n, c, l⟩, ((k + 0 : Nat) : Int)) (And.intro ⟨rfl, ⟨rfl, h⟩, (by show n ≤ _; omega), hcap⟩ ?_)
  refine ifK (fun q => absurd q (by simp only [Bool.or_eq_true, decide_eq_true_eq]; omega)) (fun _ => ?_)
  refine ifK (fun s0 => ?_) (fun s0 => ?_)
  rotate_left
  · have s0 : ¬ k + 2 ≤ n := fun e => by rw [show Nat.ble (((k + 0 : Nat) : Int).toNat + 2) n = true from Nat.ble_eq_true_of_le e] at s0; cases s0
    refine And.intro ?_ ?_
    · kernel_rfl
    exact ⟨queBad 4 (n : Int), _, _, _, rfl, wr_ge rfl, rfl, by have := queQ.short hr rfl rfl (show ((l.drop o).take n).length < _ by rw [hB]; omega); rw [hB] at this; exact this⟩
  have s0 : k + 2 ≤ n := Nat.le_of_ble_eq_true s0
  refine Exists.intro (⟨0, o, n, c, l⟩, ((k + 2 : Nat) : Int)) (And.intro ⟨rfl, ⟨rfl, h⟩, (by show n ≤ _; omega), hcap⟩ ?_)
  refine ifK (fun q => absurd q (by simp only [Bool.or_eq_true, decide_eq_true_eq]; omega)) (fun _ => ?_)
  refine ifK (fun s2 => ?_) (fun s2 => ?_)
  rotate_left
  · have s2 : ¬ k + 4 ≤ n := fun e => by rw [show Nat.ble (((k + 2 : Nat) : Int).toNat + 2) n = true from Nat.ble_eq_true_of_le e] at s2; cases s2
    refine And.intro ?_ ?_
    · kernel_rfl
    exact ⟨queBad 4 (n : Int), _, _, _, rfl, wr_ge rfl, rfl, by have := queQ.short hr rfl rfl (show ((l.drop o).take n).length < _ by rw [hB]; omega); rw [hB] at this; exact this⟩
  have s2 : k + 4 ≤ n := Nat.le_of_ble_eq_true s2
  have fin := queQ.fine hr rfl rfl (show k + 4 ≤ ((l.drop o).take n).length by rw [hB]; omega)
  rw [htake k 2 (by omega), htake (k + 2) 2 (by omega)] at fin
  exact ⟨_, _, _, _, rfl, wr_ge rfl, rfl, fin⟩
set_option maxRecDepth 1000000 in
set_option maxHeartbeats 4000000 in
theorem rrecread_fn (l : Bl) (o n c : Nat) (i : Int) (h : o + n ≤ l.length) (hn : n ≤ 1000000) (hcap : c = U ∨ n ≤ c ∧ c ≤ 9223372036854775807) : ∃ r, FnS Try.prog 0 28 [.slice (some ⟨0, o, none⟩) n c, .int .i64 i] (heap 1 [(0, .win (l.map byV) 1)]) 1 r ∧ ∃ v H m wr, r = .ret v H m wr ∧ (∀ k ∈ wr, 1 ≤ k) ∧ plainV 8 v = true ∧ recQ ((l.drop o).take n) i v := by
  have hB := lenB h
  have htake : ∀ j m : Nat, j + m ≤ n → numAt ((l.drop o).take n) j m = beN ((l.drop (o + j)).take m) := fun j m hjm => by unfold numAt; rw [List.drop_take, List.take_take, List.drop_drop, Nat.min_eq_left (by omega)]
  refine fn_sx mixed tbR10 [0] Try.func28 (c := bodyOf Try.f28) (by kernel_rfl) ?_
  refine Exists.intro (⟨0, o, n, c, l⟩, i) (And.intro ⟨rfl, ⟨rfl, h⟩, (by show n ≤ _; omega), hcap⟩ ?_)
  intro r hr
  obtain ⟨s, nx, e, pos⟩ := r
  have hr : rdOk ((l.drop o).take n) i ⟨s, nx, e, pos⟩ := hr
  refine ifK (fun g => ?_) (fun g => ?_)
  · have g : e ≠ 0 := by simpa using g
    refine And.intro ?_ ?_
    · kernel_rfl
    refine ifK (fun _ => ?_) (fun q => absurd q (by simpa using g))
    refine And.intro ?_ ?_
    · kernel_rfl
    exact ⟨recBad e pos, _, _, _, rfl, wr_ge rfl, rfl, .name hr g⟩
  have g : e = 0 := by simpa using g
  subst g
  obtain ⟨q1, q2, _⟩ := hr.fine.2 rfl
  have q1 : 0 ≤ nx := q1
  have q2 : nx ≤ (((l.drop o).take n).length : Int) := q2
  rw [hB] at q2
  obtain ⟨k, rfl⟩ := Int.eq_ofNat_of_zero_le q1
  refine Exists.intro (⟨0, o, n, c, l⟩, ((k + 0 : Nat) : Int)) (And.intro ⟨rfl, ⟨rfl, h⟩, (by show n ≤ _; omega), hcap⟩ ?_)
  refine ifK (fun q => absurd q (by simp only [Bool.or_eq_true, decide_eq_true_eq]; omega)) (fun _ => ?_)
  refine ifK (fun s0 => ?_) (fun s0 => ?_)
  rotate_left
  · have s0 : ¬ k + 2 ≤ n := fun e => by rw [show Nat.ble (((k + 0 : Nat) : Int).toNat + 2) n = true from Nat.ble_eq_true_of_le e] at s0; cases s0
    refine And.intro ?_ ?_
    · kernel_rfl
    refine And.intro ?_ ?_
    · kernel_rfl
    exact ⟨recBad 4 (n : Int), _, _, _, rfl, wr_ge rfl, rfl, by have := recQ.short hr rfl rfl (show ((l.drop o).take n).length < _ by rw [hB]; omega); rw [hB] at this; exact this⟩
  have s0 : k + 2 ≤ n := Nat.le_of_ble_eq_true s0
  refine Exists.intro (⟨0, o, n, c, l⟩, ((k + 2 : Nat) : Int)) (And.intro ⟨rfl, ⟨rfl, h⟩, (by show n ≤ _; omega), hcap⟩ ?_)
  refine ifK (fun q => absurd q (by simp only [Bool.or_eq_true, decide_eq_true_eq]; omega)) (fun _ => ?_)
  refine ifK (fun s2 => ?_) (fun s2 => ?_)
  rotate_left
  · have s2 : ¬ k + 4 ≤ n := fun e => by rw [show Nat.ble (((k + 2 : Nat) : Int).toNat + 2) n = true from Nat.ble_eq_true_of_le e] at s2; cases s2
    refine And.intro ?_ ?_
    · kernel_rfl
    refine And.intro ?_ ?_
    · kernel_rfl
    exact ⟨recBad 4 (n : Int), _, _, _, rfl, wr_ge rfl, rfl, by have := recQ.short hr rfl rfl (show ((l.drop o).take n).length < _ by rw [hB]; omega); rw [hB] at this; exact this⟩
  have s2 : k + 4 ≤ n := Nat.le_of_ble_eq_true s2
  refine Exists.intro (⟨0, o, n, c, l⟩, ((k + 4 : Nat) : Int)) (And.intro ⟨rfl, ⟨rfl, h⟩, (by show n ≤ _; omega), hcap⟩ ?_)
  refine ifK (fun q => absurd q (by simp only [Bool.or_eq_true, decide_eq_true_eq]; omega)) (fun _ => ?_)
  refine ifK (fun s4 => ?_) (fun s4 => ?_)
  rotate_left
  · have s4 : ¬ k + 8 ≤ n := fun e => by rw [show Nat.ble (((k + 4 : Nat) : Int).toNat + 4) n = true from Nat.ble_eq_true_of_le e] at s4; cases s4
    refine And.intro ?_ ?_
    · kernel_rfl
    exact ⟨recBad 4 (n : Int), _, _, _, rfl, wr_ge rfl, rfl, by have := recQ.short hr rfl rfl (show ((l.drop o).take n).length < _ by rw [hB]; omega); rw [hB] at this; exact this⟩
  have s4 : k + 8 ≤ n := Nat.le_of_ble_eq_true s4
  refine Exists.intro (⟨0, o, n, c, l⟩, ((k + 8 : Nat) : Int)) (And.intro ⟨rfl, ⟨rfl, h⟩, (by show n ≤ _; omega), hcap⟩ ?_)
  refine ifK (fun q => absurd q (by simp only [Bool.or_eq_true, decide_eq_true_eq]; omega)) (fun _ => ?_)
  refine ifK (fun s8 => ?_) (fun s8 => ?_)
  rotate_left
  · have s8 : ¬ k + 10 ≤ n := fun e => by rw [show Nat.ble (((k + 8 : Nat) : Int).toNat + 2) n = true from Nat.ble_eq_true_of_le e] at s8; cases s8
    refine And.intro ?_ ?_
    · kernel_rfl
    exact ⟨recBad 4 (n : Int), _, _, _, rfl, wr_ge rfl, rfl, by have := recQ.short hr rfl rfl (show ((l.drop o).take n).length < _ by rw [hB]; omega); rw [hB] at this; exact this⟩
  have s8 : k + 10 ≤ n := Nat.le_of_ble_eq_true s8
  refine Exists.intro (⟨0, o, n, c, l⟩, ((k + 10 : Nat) : Int), (beN ((l.drop (o + (k + 8))).take 2) : Int), (beN ((l.drop (o + k)).take 2) : Int)) (And.intro ⟨rfl, ⟨rfl, h⟩, (by show n ≤ _; omega), hcap⟩ ?_)
  intro y hy
  have hy : rdQ ((l.drop o).take n) ((k + 10 : Nat) : Int) (beN ((l.drop (o + (k + 8))).take 2) : Int) (beN ((l.drop (o + k)).take 2) : Int) y := hy
  have hy2 := hy
  rw [← htake (k + 8) 2 (by omega), ← htake k 2 (by omega)] at hy2
  have hl : k + 10 ≤ ((l.drop o).take n).length := by rw [hB]; omega
  refine ifK (fun g => ?_) (fun g => ?_)
  · have g : y.2.1 ≠ 0 := by simpa using g
    refine And.intro ?_ ?_
    · kernel_rfl
    exact ⟨recBad y.2.1 y.2.2, _, _, _, rfl, wr_ge rfl, rfl, .data hr rfl rfl hl hy2 g⟩
  have g : y.2.1 = 0 := by simpa using g
  have fin := recQ.fine hr rfl rfl hl hy2 g
  have hy3 := (hy.fine.2 g).2.2.2
  rw [hB] at hy3
  rw [htake k 2 (by omega), htake (k + 2) 2 (by omega), htake (k + 4) 4 (by omega), htake (k + 8) 2 (by omega)] at fin
  have ew : IntKind.i64.wrap (((k + 10 : Nat) : Int) + (beN ((l.drop (o + (k + 8))).take 2) : Int)) = ((k + 10 : Nat) : Int) + (beN ((l.drop (o + (k + 8))).take 2) : Int) := wrapM (by omega) (by omega)
  unfold recGood at fin
  refine ifK (fun g2 => ?_) (fun g2 => ?_)
  · have g2 : (beN ((l.drop (o + (k + 4))).take 4) : Int) ≥ 2147483648 := of_decide_eq_true g2
    rw [if_pos (by omega)] at fin
    rw [← ew] at fin
    exact ⟨_, _, _, _, rfl, wr_ge rfl, rfl, fin⟩
  · have g2 : ¬ (beN ((l.drop (o + (k + 4))).take 4) : Int) ≥ 2147483648 := of_decide_eq_false g2
    rw [if_neg (by omega)] at fin
    rw [← ew] at fin
    exact ⟨_, _, _, _, rfl, wr_ge rfl, rfl, fin⟩
noncomputable def cq_rquestion : CtQ Try.prog :=
  { f := 30, X := RdB × Int, pre := fun x a H _ => a = [x.1.sl, .int .i64 x.2] ∧ x.1.at H ∧ x.1.n ≤ 1000000 ∧ (x.1.c = U ∨ x.1.n ≤ x.1.c ∧ x.1.c ≤ 9223372036854775807), Q := fun x v => queQ x.1.B x.2 v,
    ok := fun ⟨⟨b, o, n, c, l⟩, i⟩ a H m ⟨h1, h2, h3, h4⟩ => by
      subst h1
      obtain ⟨r, hF, v, H', m', wr, rfl, hw, hp, hq⟩ := rquestion_fn l o n c i h2.2 h3 h4
      exact ⟨v, callOK_reads [b] hF hw dup_one (.cons _ _ _ _ (.sl _ _ _ _ _ rfl) (plain_rl rfl)) (rd_blocks h2.1 (byV_plain l)) hp, hq⟩,
    uniq := fun ⟨x, i⟩ ⟨y, j⟩ a H m ⟨h1, h2, _⟩ ⟨k1, k2, _⟩ => by
      rw [h1] at k1
      simp only [List.cons.injEq, Value.int.injEq, true_and, and_true] at k1
      rw [RdB.uniq k1.1 h2 k2, k1.2] }
noncomputable def cq_rrecread : CtQ Try.prog :=
  { f := 28, X := RdB × Int, pre := fun x a H _ => a = [x.1.sl, .int .i64 x.2] ∧ x.1.at H ∧ x.1.n ≤ 1000000 ∧ (x.1.c = U ∨ x.1.n ≤ x.1.c ∧ x.1.c ≤ 9223372036854775807), Q := fun x v => recQ x.1.B x.2 v,
    ok := fun ⟨⟨b, o, n, c, l⟩, i⟩ a H m ⟨h1, h2, h3, h4⟩ => by
      subst h1
      obtain ⟨r, hF, v, H', m', wr, rfl, hw, hp, hq⟩ := rrecread_fn l o n c i h2.2 h3 h4
      exact ⟨v, callOK_reads [b] hF hw dup_one (.cons _ _ _ _ (.sl _ _ _ _ _ rfl) (plain_rl rfl)) (rd_blocks h2.1 (byV_plain l)) hp, hq⟩,
    uniq := fun ⟨x, i⟩ ⟨y, j⟩ a H m ⟨h1, h2, _⟩ ⟨k1, k2, _⟩ => by
      rw [h1] at k1
      simp only [List.cons.injEq, Value.int.injEq, true_and, and_true] at k1
      rw [RdB.uniq k1.1 h2 k2, k1.2] }
end Go.Proofs.Ytmpaeabkdhjamaa
/- DERIVED. The law's walk: RecReads. -/
namespace Go.Proofs.Ytmpaeabkdhjamaa
open Go Go.RowKit
def recT (s d : ByteArray) (t c ttl i e p : Int) : Value := .tuple #[.agg #[.string s, .int .i64 t, .int .i64 c, .int .i64 ttl, .string d], .int .i64 i, .agg #[.int .i64 e, .int .i64 p]]
def queT (s : ByteArray) (t c i e p : Int) : Value := .tuple #[.agg #[.string s, .int .i64 t, .int .i64 c], .int .i64 i, .agg #[.int .i64 e, .int .i64 p]]
theorem recQ.form {B : Bl} {a : Int} {v : Value} (h : recQ B a v) : ∃ s d t c ttl i e p, v = recT s d t c ttl i e p := by
  cases h with
  | name => exact ⟨_, _, _, _, _, _, _, _, rfl⟩
  | short => exact ⟨_, _, _, _, _, _, _, _, rfl⟩
  | data => exact ⟨_, _, _, _, _, _, _, _, rfl⟩
  | fine => exact ⟨_, _, _, _, _, _, _, _, rfl⟩
theorem queQ.form {B : Bl} {a : Int} {v : Value} (h : queQ B a v) : ∃ s t c i e p, v = queT s t c i e p := by
  cases h with
  | name => exact ⟨_, _, _, _, _, _, rfl⟩
  | short => exact ⟨_, _, _, _, _, _, rfl⟩
  | fine => exact ⟨_, _, _, _, _, _, rfl⟩
noncomputable def tbR11 : Tb Try.prog 0 := tbOf mixed [cq_recread.ct, cq_question.ct, cq_rrecread.ct, cq_rquestion.ct, ct_lent, inl_kept, Ct.yes 15 awake_calls]
set_option maxRecDepth 1000000 in
set_option maxHeartbeats 4000000 in
theorem rreads_fn (l : Bl) (c : Nat) (i : Int) (hl : l.length ≤ c) (hc : c ≤ 9223372036854775807) : ∃ r, FnS Try.prog 0 6 [.slice (some ⟨0, 0, none⟩) l.length c, .int .i64 i] (heap 1 [(0, .win (l.map byV) 1)]) 1 r ∧ ∃ H m wr, r = .ret (.bool true) H m wr ∧ ∀ k ∈ wr, 1 ≤ k := by
  have hB : (l.drop 0).take l.length = l := by rw [List.drop_zero, List.take_length]
  have hL : ((lentL l).drop 0).take l.length = l := by rw [List.drop_zero]; exact List.take_left
  refine fn_sx mixed tbR11 [0] Try.func6 (c := bodyOf Try.f6) (by kernel_rfl) ?_
  refine ifK (fun _ => ?_) (fun h0 => ?_)
  · exact ⟨_, _, _, rfl, wr_ge rfl⟩
  have h0 : ¬ (l.length : Int) > 3000 := of_decide_eq_false h0
  refine Exists.intro (⟨0, 0, l.length, c, l⟩, ()) (And.intro ⟨rfl, ⟨rfl, (by show 0 + l.length ≤ l.length; omega)⟩, (by show l.length ≤ 1000000000; omega)⟩ ?_)
  refine Exists.intro (⟨1, 0, l.length, l.length + 3, lentL ((l.drop 0).take l.length)⟩, i) (And.intro ⟨rfl, ⟨seesB_cells (by kernel_rfl), (by rw [hB]; show 0 + l.length ≤ (lentL l).length; rw [lentL_len]; omega)⟩, (by show l.length ≤ _; omega), .inr ⟨by show l.length ≤ l.length + 3; omega, by show l.length + 3 ≤ _; omega⟩⟩ ?_)
  intro v hv
  have hv : recQ (((lentL ((l.drop 0).take l.length)).drop 0).take l.length) i v := hv
  rw [hB, hL] at hv
  obtain ⟨s, d, t, cl, ttl, j, e, p, rfl⟩ := hv.form
  refine Exists.intro (⟨0, 0, l.length, c, l⟩, i) (And.intro ⟨rfl, ⟨rfl, (by show 0 + l.length ≤ l.length; omega)⟩, (by show l.length ≤ _; omega), .inr ⟨hl, hc⟩⟩ ?_)
  intro v' hv'
  have hv' : recQ ((l.drop 0).take l.length) i v' := hv'
  rw [hB] at hv'
  obtain rfl := hv.det hv'
  refine Exists.intro (⟨1, 0, l.length, l.length + 3, lentL ((l.drop 0).take l.length)⟩, i) (And.intro ⟨rfl, ⟨seesB_cells (by kernel_rfl), (by rw [hB]; show 0 + l.length ≤ (lentL l).length; rw [lentL_len]; omega)⟩, (by show l.length ≤ _; omega), .inr ⟨by show l.length ≤ l.length + 3; omega, by show l.length + 3 ≤ _; omega⟩⟩ ?_)
  intro u hu
  have hu : queQ (((lentL ((l.drop 0).take l.length)).drop 0).take l.length) i u := hu
  rw [hB, hL] at hu
  obtain ⟨s2, t2, c2, j2, e2, p2, rfl⟩ := hu.form
  refine Exists.intro (⟨0, 0, l.length, c, l⟩, i) (And.intro ⟨rfl, ⟨rfl, (by show 0 + l.length ≤ l.length; omega)⟩, (by show l.length ≤ _; omega), .inr ⟨hl, hc⟩⟩ ?_)
  intro u' hu'
  have hu' : queQ ((l.drop 0).take l.length) i u' := hu'
  rw [hB] at hu'
  obtain rfl := hu.det hu'
  refine And.intro (by kernel_rfl) ?_
  refine ifK (fun _ => ?_) (fun g => absurd g (by simp))
  refine ifK (fun _ => ?_) (fun g => absurd g (by simp))
  refine And.intro (by kernel_rfl) ?_
  refine ifK (fun _ => ?_) (fun g => absurd g (by simp))
  refine And.intro (by kernel_rfl) ?_
  refine ifK (fun _ => ?_) (fun g => absurd g (by simp))
  refine ifK (fun _ => ?_) (fun g => absurd g (by simp))
  refine And.intro (by kernel_rfl) ?_
  refine ifK (fun _ => ?_) (fun g => absurd g (by simp))
  refine And.intro (by kernel_rfl) ?_
  refine ifK (fun _ => ?_) (fun g => absurd g (by simp))
  refine Exists.intro (⟨0, 0, l.length, c, l⟩, ()) (And.intro ⟨rfl, ⟨rfl, (by show 0 + l.length ≤ l.length; omega)⟩, (by show l.length ≤ 1000000000; omega)⟩ ?_)
  have hU : (l.length + 3).beq U = false := by cases hb : (l.length + 3).beq U with | false => rfl | true => exact absurd (Nat.eq_of_beq_eq_true hb) (by unfold U; omega)
  have e3 : IntKind.i64.wrap ((l.length : Int) + 3) = ((l.length + 3 : Nat) : Int) := by rw [wrapM (by omega) (by omega)]; omega
  have eLL : (lentL ((l.drop 0).take l.length)).length = l.length + 3 := by rw [hB, lentL_len]
  refine And.intro hU ?_
  refine ifK (fun g => absurd g (by rw [hU]; simp)) (fun _ => ?_)
  refine And.intro (by simp only [inLH, Bool.and_eq_true, decide_eq_true_eq]; (try dsimp only); exact ⟨⟨⟨⟨by omega, by omega⟩, by omega⟩, Nat.ble_eq_true_of_le (by omega)⟩, Nat.ble_eq_true_of_le (by omega)⟩) ?_
  refine ifK (fun g => absurd g (by rw [hU]; simp)) (fun _ => ?_)
  refine And.intro (by simp only [inLH, Bool.and_eq_true, decide_eq_true_eq]; (try dsimp only); exact ⟨⟨⟨⟨by omega, by omega⟩, by omega⟩, Nat.ble_eq_true_of_le (by omega)⟩, Nat.ble_eq_true_of_le (by omega)⟩) ?_
  refine Exists.intro (lentL ((l.drop 0).take l.length)) (And.intro (srcC_all (e := 5) (by kernel_rfl) (by kernel_rfl) (by rw [eLL]; first | rfl | (dsimp only; omega))) ?_)
  refine Exists.intro (lentL ((l.drop 0).take l.length)) (And.intro (srcC_all (e := 5) (by kernel_rfl) (by kernel_rfl) (by rw [eLL, e3]; first | rfl | (dsimp only; omega))) ?_)
  refine ifK (fun _ => ?_) (fun g => absurd g (by simp))
  exact ⟨_, _, _, rfl, wr_ge rfl⟩
end Go.Proofs.Ytmpaeabkdhjamaa
