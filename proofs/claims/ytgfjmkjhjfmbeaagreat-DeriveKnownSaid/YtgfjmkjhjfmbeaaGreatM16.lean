/- DERIVED. The machine M, sixteenth part: regions whose order is open: plain facts. -/
import Derived.Test.YtgfjmkjhjfmbeaaGreatM15
namespace Go.Proofs.YtgfjmkjhjfmbeaaGreat
open Go.RowKit

/-! ### what comes ahead of what -/
theorem testBit_fold (acc : List Nat) (i : Nat) : ∀ (es : List Edge) (s : Nat), Nat.testBit (es.foldl (fun s e => bif Region.binds .any e then s ||| 2 ^ e.on ||| acc.getD e.on 0 else s) s) i = true ↔ Nat.testBit s i = true ∨ ∃ e ∈ es, Region.binds .any e = true ∧ (e.on = i ∨ Nat.testBit (acc.getD e.on 0) i = true)
  | [], s => by simp
  | e :: es, s => by
    simp only [List.foldl_cons]
    rw [testBit_fold acc i es]
    cases hb : Region.binds .any e with
    | false => simp [hb]
    | true =>
      simp only [cond_true, Nat.testBit_or, Bool.or_eq_true, Nat.testBit_two_pow, decide_eq_true_eq, List.mem_cons, exists_eq_or_imp, hb, true_and]
      constructor
      · rintro (((h | h) | h) | h)
        · exact .inl h
        · exact .inr (.inl (.inl h))
        · exact .inr (.inl (.inr h))
        · exact .inr (.inr h)
      · rintro (h | (h | h) | h)
        · exact .inl (.inl (.inl h))
        · exact .inl (.inl (.inr h))
        · exact .inl (.inr h)
        · exact .inr h

theorem preAll_len : ∀ (l : List Oper) (acc : List Nat), (preAll l acc).length = acc.length + l.length
  | [], acc => by simp [preAll]
  | o :: l, acc => by rw [preAll, preAll_len l]; simp; omega
theorem preAll_old : ∀ (l : List Oper) (acc : List Nat) (k : Nat), k < acc.length → (preAll l acc)[k]? = acc[k]?
  | [], acc, k, h => rfl
  | o :: l, acc, k, h => by rw [preAll, preAll_old l _ k (by simp; omega), List.getElem?_append_left h]
theorem preAll_at : ∀ (l : List Oper) (acc : List Nat) (j : Nat) (o : Oper), l[j]? = some o → (preAll l acc)[acc.length + j]? = some (preOf ((preAll l acc).take (acc.length + j)) o.after.toList)
  | [], acc, j, o, h => by simp at h
  | o' :: l, acc, 0, o, h => by
    simp at h; subst h
    rw [preAll, preAll_old l _ _ (by simp), Nat.add_zero, List.getElem?_append_right (Nat.le_refl _)]
    simp only [Nat.sub_self, List.getElem?_cons_zero, Option.some.injEq]
    congr 1
    apply List.ext_getElem?
    intro k
    by_cases hk : k < acc.length
    · rw [List.getElem?_take_of_lt hk, preAll_old l _ k (by simp; omega), List.getElem?_append_left hk]
    · rw [List.getElem?_eq_none (by omega), List.getElem?_eq_none (by simp; omega)]
  | o' :: l, acc, j + 1, o, h => by
    simp at h
    have := preAll_at l (acc ++ [preOf acc o'.after.toList]) j o h
    simp only [List.length_append, List.length_cons, List.length_nil] at this
    rw [preAll, show acc.length + (j + 1) = acc.length + (0 + 1) + j by omega]
    exact this

/-- i comes ahead of j. -/
def ahead (pre : List Nat) (j i : Nat) : Prop := Nat.testBit (pre.getD j 0) i = true

theorem ahead_iff {ops : Array Oper} {j : Nat} {o : Oper} (ho : ops[j]? = some o) (i : Nat) : ahead (preAll ops.toList []) j i ↔ ∃ e ∈ o.after, Region.binds .any e = true ∧ (e.on = i ∨ (e.on < j ∧ ahead (preAll ops.toList []) e.on i)) := by
  have h := preAll_at ops.toList [] j o (by simpa using ho)
  simp only [List.length_nil, Nat.zero_add] at h
  unfold ahead
  rw [List.getD_eq_getElem?_getD, h]
  simp only [Option.getD_some, preOf]
  rw [testBit_fold]
  simp only [Nat.zero_testBit, Bool.false_eq_true, false_or, Array.mem_toList_iff]
  constructor
  · rintro ⟨e, he, hb, h | h⟩
    · exact ⟨e, he, hb, .inl h⟩
    · refine ⟨e, he, hb, .inr ?_⟩
      rw [List.getD_eq_getElem?_getD] at h ⊢
      by_cases hlt : e.on < j
      · exact ⟨hlt, by rwa [List.getElem?_take_of_lt hlt] at h⟩
      · rw [List.getElem?_eq_none (by simp; omega)] at h; simp at h
  · rintro ⟨e, he, hb, h | ⟨hlt, h⟩⟩
    · exact ⟨e, he, hb, .inl h⟩
    · refine ⟨e, he, hb, .inr ?_⟩
      rw [List.getD_eq_getElem?_getD] at h ⊢
      rwa [List.getElem?_take_of_lt hlt]

theorem ahead_closed {ops : Array Oper} {D : Nat → Prop} (hD : ∀ j o, ops[j]? = some o → D j → ∀ e ∈ o.after, Region.binds .any e = true → D e.on) : ∀ (j : Nat) (o : Oper), ops[j]? = some o → (∀ e ∈ o.after, Region.binds .any e = true → D e.on) → ∀ i, ahead (preAll ops.toList []) j i → D i := by
  intro j
  induction j using Nat.strongRecOn with
  | _ j ih =>
    intro o ho hed i hi
    obtain ⟨e, he, hb, rfl | ⟨hlt, h⟩⟩ := (ahead_iff ho i).1 hi
    · exact hed e he hb
    · have hjs : j < ops.size := (Array.getElem?_eq_some_iff.1 ho).1
      have ho' : ops[e.on]? = some (ops[e.on]'(by omega)) := Array.getElem?_eq_getElem _
      exact ih e.on hlt _ ho' (hD _ _ ho' (hed e he hb)) i h

/-! ### what has been done -/
def dstOf (ops : Array Oper) (i : Nat) : Option Tmp := (ops[i]?).bind (·.dst)

open Classical in
noncomputable def TD (ops : Array Oper) (D : Nat → Prop) (f0 : Nat → Value) : List Rec → Nat → Value
  | [] => f0
  | r :: rs => fun t => if D r.i ∧ dstOf ops r.i = some t then r.v else TD ops D f0 rs t
open Classical in
noncomputable def GD (D : Nat → Prop) (G0 : Gh) : List Rec → Gh
  | [] => G0
  | r :: rs => fun k => if D r.i ∧ inK r k = true then r.Hout.get k else GD D G0 rs k

theorem TD_agree {ops : Array Oper} {D D' : Nat → Prop} {f0 : Nat → Value} {t : Nat} : ∀ {rs : List Rec}, (∀ r ∈ rs, dstOf ops r.i = some t → (D r.i ↔ D' r.i)) → TD ops D f0 rs t = TD ops D' f0 rs t
  | [], _ => rfl
  | r :: rs, h => by
    have ih := TD_agree (f0 := f0) (rs := rs) (fun r' hr' => h r' (by simp [hr']))
    simp only [TD, ih]
    by_cases hd : dstOf ops r.i = some t
    · have := h r (by simp) hd
      by_cases h1 : D r.i
      · rw [if_pos ⟨h1, hd⟩, if_pos ⟨this.1 h1, hd⟩]
      · rw [if_neg (fun x => h1 x.1), if_neg (fun x => h1 (this.2 x.1))]
    · rw [if_neg (fun x => hd x.2), if_neg (fun x => hd x.2)]
theorem GD_agree {D D' : Nat → Prop} {G0 : Gh} {k : Nat} : ∀ {rs : List Rec}, (∀ r ∈ rs, inK r k = true → (D r.i ↔ D' r.i)) → GD D G0 rs k = GD D' G0 rs k
  | [], _ => rfl
  | r :: rs, h => by
    have ih := GD_agree (G0 := G0) (rs := rs) (fun r' hr' => h r' (by simp [hr']))
    simp only [GD, ih]
    by_cases hd : inK r k = true
    · have := h r (by simp) hd
      by_cases h1 : D r.i
      · rw [if_pos ⟨h1, hd⟩, if_pos ⟨this.1 h1, hd⟩]
      · rw [if_neg (fun x => h1 x.1), if_neg (fun x => h1 (this.2 x.1))]
    · rw [if_neg (fun x => hd x.2), if_neg (fun x => hd x.2)]

theorem TD_hit {ops : Array Oper} {D : Nat → Prop} {f0 : Nat → Value} {t : Nat} {r : Rec} {B : List Rec} (hr : D r.i) (hd : dstOf ops r.i = some t) : ∀ {A : List Rec}, (∀ r' ∈ A, D r'.i → dstOf ops r'.i ≠ some t) → TD ops D f0 (A ++ r :: B) t = r.v
  | [], _ => by simp only [List.nil_append, TD]; rw [if_pos ⟨hr, hd⟩]
  | a :: A, h => by
    simp only [List.cons_append, TD]
    rw [if_neg (fun x => h a (by simp) x.1 x.2)]
    exact TD_hit hr hd (fun r' hr' => h r' (by simp [hr']))
theorem GD_hit {D : Nat → Prop} {G0 : Gh} {k : Nat} {r : Rec} {B : List Rec} (hr : D r.i) (hd : inK r k = true) : ∀ {A : List Rec}, (∀ r' ∈ A, D r'.i → inK r' k ≠ true) → GD D G0 (A ++ r :: B) k = r.Hout.get k
  | [], _ => by simp only [List.nil_append, GD]; rw [if_pos ⟨hr, hd⟩]
  | a :: A, h => by
    simp only [List.cons_append, GD]
    rw [if_neg (fun x => h a (by simp) x.1 x.2)]
    exact GD_hit hr hd (fun r' hr' => h r' (by simp [hr']))

/-- What lies behind does not count where it has not been done. -/
theorem TD_tail {ops : Array Oper} {D : Nat → Prop} {f0 : Nat → Value} {t : Nat} {B : List Rec} : ∀ {A : List Rec}, (∀ r ∈ A, ¬ D r.i) → TD ops D f0 (A ++ B) t = TD ops D f0 B t
  | [], _ => rfl
  | a :: A, h => by simp only [List.cons_append, TD]; rw [if_neg (fun x => h a (by simp) x.1)]; exact TD_tail (fun r hr => h r (by simp [hr]))
theorem GD_tail {D : Nat → Prop} {G0 : Gh} {k : Nat} {B : List Rec} : ∀ {A : List Rec}, (∀ r ∈ A, ¬ D r.i) → GD D G0 (A ++ B) k = GD D G0 B k
  | [], _ => rfl
  | a :: A, h => by simp only [List.cons_append, GD]; rw [if_neg (fun x => h a (by simp) x.1)]; exact GD_tail (fun r hr => h r (by simp [hr]))

/-! ### records in order -/
def rdKey (r : Rec) (k : Nat) : Prop := match r.ids with | some l => k ∈ l | none => r.Hin.get k ≠ none

theorem freeOf_symm (pre : List Nat) (i j : Nat) : freeOf pre i j = freeOf pre j i := by unfold freeOf; rw [Bool.and_comm]
theorem free_or {pre : List Nat} {i j : Nat} (h : freeOf pre i j ≠ true) : ahead pre i j ∨ ahead pre j i := by
  unfold freeOf at h
  unfold ahead
  cases h1 : Nat.testBit (pre.getD i 0) j
  · cases h2 : Nat.testBit (pre.getD j 0) i
    · rw [h1, h2] at h; exact absurd rfl h
    · exact .inr rfl
  · exact .inl rfl

theorem mem_seqL : ∀ (n lo k : Nat), k ∈ seqL lo n ↔ lo ≤ k ∧ k < lo + n
  | 0, lo, k => by simp [seqL]
  | n + 1, lo, k => by
    simp only [seqL, List.mem_cons, mem_seqL n (lo + 1) k]
    omega

theorem inK_iff {r : Rec} {k : Nat} : inK r k = true ↔ k ∈ r.W ∨ (r.lo ≤ k ∧ k < r.hi) := by
  unfold inK
  simp only [Bool.or_eq_true, Bool.and_eq_true, List.elem_eq_mem, decide_eq_true_eq]
  constructor
  · rintro (h | ⟨h1, h2⟩)
    · exact .inl h
    · exact .inr ⟨Nat.le_of_ble_eq_true h1, by have := Nat.le_of_ble_eq_true h2; omega⟩
  · rintro (h | ⟨h1, h2⟩)
    · exact .inl h
    · exact .inr ⟨Nat.ble_eq_true_of_le h1, Nat.ble_eq_true_of_le h2⟩

theorem apartR_spec {r r' : Rec} (h : apartR r r' = true) {k : Nat} (hk : inK r k = true) : ¬ rdKey r' k := by
  unfold apartR at h
  unfold rdKey
  cases hi : r'.ids with
  | some l =>
    rw [hi] at h
    intro hl
    have := List.all_eq_true.1 h k hl
    rw [hk] at this; simp at this
  | none =>
    rw [hi] at h
    simp only [Bool.and_eq_true] at h
    intro hl
    rcases inK_iff.1 hk with hW | hr
    · have := List.all_eq_true.1 h.1 k hW
      simp at this; exact hl this
    · cases hi2 : r.ids with
      | none => rw [hi2] at h; simp at h
      | some l =>
        rw [hi2] at h
        have := List.all_eq_true.1 h.2 k ((mem_seqL _ _ _).2 ⟨hr.1, by omega⟩)
        simp at this; exact hl this

theorem apartW_spec {r r' : Rec} (h : apartW r r' = true) {k : Nat} (h1 : inK r k = true) (h2 : inK r' k = true) : False := by
  unfold apartW at h
  simp only [Bool.and_eq_true, Bool.or_eq_true] at h
  obtain ⟨⟨a, b⟩, c⟩ := h
  rcases inK_iff.1 h1 with hW | hr
  · have := List.all_eq_true.1 a k hW; rw [h2] at this; simp at this
  · rcases inK_iff.1 h2 with hW' | hr'
    · have := List.all_eq_true.1 b k hW'; rw [h1] at this; simp at this
    · rcases c with c | c
      · have := Nat.le_of_ble_eq_true c; omega
      · have := Nat.le_of_ble_eq_true c; omega

/-- Records, the latest first: each in its order, apart from what is free of it. -/
def Good (ops : Array Oper) (pre : List Nat) (n0 nt : Nat) (ok : Rec → List Rec → Prop) : List Rec → Prop
  | [] => True
  | r :: rs => ok r rs ∧ fits pre r rs = true ∧ (∀ r' ∈ rs, r'.i ≠ r.i) ∧ (∀ i, ahead pre r.i i → ∃ r' ∈ rs, r'.i = i) ∧ (∀ r' ∈ rs, r'.hi ≤ r.lo) ∧ n0 ≤ r.lo ∧ r.lo ≤ r.hi ∧ (∀ d, dstOf ops r.i = some d → d < nt) ∧ Good ops pre n0 nt ok rs

section
variable {ops : Array Oper} {pre : List Nat} {n0 nt : Nat} {ok : Rec → List Rec → Prop}

theorem Good.tail : ∀ {A B : List Rec}, Good ops pre n0 nt ok (A ++ B) → Good ops pre n0 nt ok B
  | [], _, h => h
  | _ :: A, _, h => Good.tail (A := A) h.2.2.2.2.2.2.2.2

theorem Good.apart : ∀ {A : List Rec} {r : Rec} {B : List Rec}, Good ops pre n0 nt ok (A ++ r :: B) → ∀ r' ∈ A ++ B, r'.i ≠ r.i ∧
    (freeOf pre r.i r'.i = true → (apartR r r' = true ∧ apartR r' r = true ∧ ∀ k, inK r k = true → inK r' k = true → False)) ∧ (r'.hi ≤ r.lo ∨ r.hi ≤ r'.lo) := by
  intro A
  induction A with
  | nil =>
    intro r B h r' hr'
    obtain ⟨_, hf, hd, _, hlo, _, _, _, _⟩ := h
    have hr' : r' ∈ B := by simpa using hr'
    refine ⟨hd r' hr', fun hfr => ?_, .inl (hlo r' hr')⟩
    have := List.all_eq_true.1 hf r' hr'
    simp only [hfr, Bool.not_true, Bool.false_or, Bool.and_eq_true] at this
    exact ⟨this.1.1, this.1.2, fun k h1 h2 => apartW_spec this.2 h1 h2⟩
  | cons a A ih =>
    intro r B h r' hr'
    obtain ⟨_, hf, hd, _, hlo, _, _, _, ht⟩ := h
    simp only [List.cons_append, List.mem_cons] at hr'
    rcases hr' with rfl | hr'
    · have hm : r ∈ A ++ r :: B := by simp
      refine ⟨(hd r hm).symm, fun hfr => ?_, .inr (hlo r hm)⟩
      have := List.all_eq_true.1 hf r hm
      rw [freeOf_symm] at hfr
      simp only [hfr, Bool.not_true, Bool.false_or, Bool.and_eq_true] at this
      exact ⟨this.1.2, this.1.1, fun k h1 h2 => apartW_spec this.2 h2 h1⟩
    · exact ih ht r' hr'

theorem Good.behind : ∀ {A : List Rec} {r : Rec} {B : List Rec}, Good ops pre n0 nt ok (A ++ r :: B) → ∀ r' ∈ B, ∀ i, ahead pre r'.i i → ∃ r'' ∈ B, r''.i = i := by
  intro A r B h r' hr' i hi
  have hB : Good ops pre n0 nt ok B := (h.tail).2.2.2.2.2.2.2.2
  obtain ⟨C, D, rfl⟩ := List.append_of_mem hr'
  obtain ⟨_, _, _, ho, _⟩ := hB.tail
  obtain ⟨r'', h1, h2⟩ := ho i hi
  exact ⟨r'', by simp [h1], h2⟩

/-- Of two in order, both have been done, or neither. -/
theorem Good.both {A : List Rec} {r : Rec} {B : List Rec} (h : Good ops pre n0 nt ok (A ++ r :: B)) {D : Nat → Prop} (hr : ¬ D r.i) (hup : ∀ i, ahead pre r.i i → D i) (hdown : ∀ j i, D j → ahead pre j i → D i)
    {r' : Rec} (_ : r' ∈ A ++ B) (hnf : freeOf pre r.i r'.i ≠ true) : (∃ x ∈ B, x.i = r'.i) ↔ D r'.i := by
  have hself : Good ops pre n0 nt ok (r :: B) := h.tail
  rcases free_or hnf with h1 | h1
  · exact ⟨fun _ => hup _ h1, fun _ => hself.2.2.2.1 _ h1⟩
  · constructor
    · rintro ⟨x, hx, hxi⟩
      obtain ⟨y, hy, hyi⟩ := h.behind x hx r.i (by rw [hxi]; exact h1)
      exact absurd hyi (hself.2.2.1 y hy)
    · intro hD
      exact absurd (hdown _ _ hD h1) hr

theorem Good.notB {A : List Rec} {r : Rec} {B : List Rec} (h : Good ops pre n0 nt ok (A ++ r :: B)) : (∀ x ∈ A, ¬ ∃ y ∈ B, y.i = x.i) ∧ ¬ ∃ y ∈ B, y.i = r.i := by
  refine ⟨fun x hx => ?_, fun ⟨y, hy, e⟩ => h.tail.2.2.1 y hy e⟩
  rintro ⟨y, hy, e⟩
  obtain ⟨C, D, rfl⟩ := List.append_of_mem hx
  have h2 : Good ops pre n0 nt ok (x :: (D ++ r :: B)) := by
    have : C ++ x :: D ++ r :: B = C ++ (x :: (D ++ r :: B)) := by simp
    rw [this] at h; exact h.tail
  exact h2.2.2.1 y (by simp [hy]) e
end
end Go.Proofs.YtgfjmkjhjfmbeaaGreat
