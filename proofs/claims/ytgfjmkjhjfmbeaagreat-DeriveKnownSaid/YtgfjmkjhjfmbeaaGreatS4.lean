/- DERIVED. M with symbols, fourth part: names anew. -/
import Derived.Test.YtgfjmkjhjfmbeaaGreatS3
namespace Go.Proofs.YtgfjmkjhjfmbeaaGreat
open Go.RowKit

/-! ### names -/
def posN (k : Nat) : List Nat → Nat → Option Nat
  | [], _ => none
  | x :: l, i => bif k.beq x then some i else posN k l (i + 1)
/-- The new name of an old one: those in L come first. -/
def sg (k0 : Nat) (L : List Nat) (k : Nat) : Nat := bif Nat.blt k k0 then k else match posN k L k0 with | some i => i | none => JJ + k
def sgO (k0 : Nat) (L : List Nat) (k : Nat) : Option Nat := some (sg k0 L k)
/-- .. and back. -/
def un (k0 : Nat) (L : List Nat) (k : Nat) : Nat := bif Nat.blt k k0 then k else match L[k - k0]? with | some x => x | none => k - JJ

theorem posN_some {k : Nat} : ∀ {L : List Nat} {i j : Nat}, posN k L i = some j → i ≤ j ∧ j < i + L.length ∧ L[j - i]? = some k
  | x :: l, i, j, h => by
    unfold posN at h
    cases hb : k.beq x with
    | true =>
      rw [hb] at h
      have := Nat.eq_of_beq_eq_true hb
      simp at h; subst h; subst this
      exact ⟨Nat.le_refl _, by simp, by simp⟩
    | false =>
      rw [hb] at h
      obtain ⟨h1, h2, h3⟩ := posN_some (L := l) h
      refine ⟨by omega, by simp; omega, ?_⟩
      rw [show j - i = (j - (i + 1)) + 1 by omega]; simpa using h3
theorem posN_none {k : Nat} : ∀ {L : List Nat} {i : Nat}, posN k L i = none → k ∉ L
  | [], _, _ => by simp
  | x :: l, i, h => by
    unfold posN at h
    cases hb : k.beq x with
    | true => rw [hb] at h; cases h
    | false =>
      rw [hb] at h
      have hne : k ≠ x := fun e => by rw [e] at hb; simp at hb
      simp [hne, posN_none (L := l) h]
theorem posN_at {k : Nat} : ∀ {L : List Nat} (_ : L.Nodup) {i j : Nat}, L[j]? = some k → posN k L i = some (i + j)
  | x :: l, hn, i, 0, h => by simp at h; subst h; simp [posN]
  | x :: l, hn, i, j + 1, h => by
    simp at h
    have hm : k ∈ l := List.mem_of_getElem? h
    have hne : k ≠ x := fun e => by subst e; exact (List.nodup_cons.1 hn).1 hm
    unfold posN
    have hb : k.beq x = false := by cases hb : k.beq x; rfl; exact absurd (Nat.eq_of_beq_eq_true hb) hne
    rw [hb]
    simp only [cond_false]
    rw [posN_at (List.nodup_cons.1 hn).2 h]
    congr 1; omega

section
variable {k0 : Nat} {L : List Nat}

theorem sg_low {k : Nat} (h : k < k0) : sg k0 L k = k := by
  unfold sg; rw [show Nat.blt k k0 = true from Nat.ble_eq_true_of_le h]; rfl
theorem un_low {k : Nat} (h : k < k0) : un k0 L k = k := by
  unfold un; rw [show Nat.blt k k0 = true from Nat.ble_eq_true_of_le h]; rfl
theorem blt_false {k k0 : Nat} (h : k0 ≤ k) : Nat.blt k k0 = false := by
  cases hb : Nat.blt k k0 with
  | false => rfl
  | true => have : k + 1 ≤ k0 := Nat.le_of_ble_eq_true hb; omega

theorem un_sg (hL : ∀ x ∈ L, k0 ≤ x) (hJ : k0 + L.length ≤ JJ) (k : Nat) : un k0 L (sg k0 L k) = k := by
  by_cases h : k < k0
  · rw [sg_low h, un_low h]
  · unfold sg
    rw [blt_false (by omega)]
    simp only [cond_false]
    cases hp : posN k L k0 with
    | some i =>
      obtain ⟨h1, h2, h3⟩ := posN_some hp
      unfold un
      simp only [blt_false h1, cond_false, h3]
    | none =>
      unfold un
      simp only []
      rw [blt_false (by omega)]
      have : L[JJ + k - k0]? = none := List.getElem?_eq_none (by omega)
      simp [this]

/-- The names of a state told anew. -/
theorem sg_un_new (hL : ∀ x ∈ L, k0 ≤ x) (hn : L.Nodup) {k : Nat} (hk : k < k0 + L.length) : sg k0 L (un k0 L k) = k := by
  by_cases h : k < k0
  · rw [un_low h, sg_low h]
  · unfold un
    rw [blt_false (by omega)]
    have hl : k - k0 < L.length := by omega
    simp only [cond_false, List.getElem?_eq_getElem hl]
    have hx : k0 ≤ L[k - k0] := hL _ (List.getElem_mem hl)
    unfold sg
    rw [blt_false hx]
    simp only [cond_false]
    rw [posN_at hn (j := k - k0) (List.getElem?_eq_getElem hl)]
    simp only []; omega

theorem new_name {k : Nat} (h : sg k0 L (un k0 L k) = k) (hk : k0 ≤ k) : (k < k0 + L.length ∨ JJ ≤ k) ∧ k0 ≤ un k0 L k := by
  have h' := h
  unfold sg at h
  by_cases hb : un k0 L k < k0
  · rw [sg_low hb] at h'; omega
  · refine ⟨?_, by omega⟩
    rw [blt_false (by omega)] at h
    simp only [cond_false] at h
    cases hp : posN (un k0 L k) L k0 with
    | some i => rw [hp] at h; simp only [] at h; subst h; exact .inl (posN_some hp).2.1
    | none => rw [hp] at h; simp only [] at h; exact .inr (by omega)
end

/-! ### values -/
mutual
inductive RV (σ : Nat → Option Nat) : Value → Value → Prop
  | bool (b : Bool) : RV σ (.bool b) (.bool b)
  | int (k : IntKind) (n : Int) : RV σ (.int k n) (.int k n)
  | float (k : FloatKind) (b : Nat) : RV σ (.float k b) (.float k b)
  | string (s : ByteArray) : RV σ (.string s) (.string s)
  | pnil : RV σ (.pointer none) (.pointer none)
  | ptr (b o b' : Nat) (h : σ b = some b') : RV σ (.pointer (some ⟨b, o, none⟩)) (.pointer (some ⟨b', o, none⟩))
  | snil (l c : Nat) : RV σ (.slice none l c) (.slice none l c)
  | sl (b o n c b' : Nat) (h : σ b = some b') : RV σ (.slice (some ⟨b, o, none⟩) n c) (.slice (some ⟨b', o, none⟩) n c)
  | mnil : RV σ (.map none) (.map none)
  | map (b b' : Nat) (h : σ b = some b') : RV σ (.map (some b)) (.map (some b'))
  | func (fn : Fn) (q q' cs cs' : Array Value) (hf : plainFn fn = true) (ha : RL σ q.toList q'.toList) (hc : RL σ cs.toList cs'.toList) : RV σ (.func fn q cs) (.func fn q' cs')
  | yield (l l' : Nat) (h : σ l = some l') : RV σ (.func (.yield l) #[] #[]) (.func (.yield l') #[] #[])
  | fnil : RV σ .nilFunc .nilFunc
  | iface (t : TypeId) (v v' : Value) (h : RV σ v v') : RV σ (.iface t v) (.iface t v')
  | inil : RV σ .nilIface .nilIface
  | agg (a a' : Array Value) (h : RL σ a.toList a'.toList) : RV σ (.agg a) (.agg a')
  | tuple (a a' : Array Value) (h : RL σ a.toList a'.toList) : RV σ (.tuple a) (.tuple a')
  | ub (t : TypeId) : RV σ (.chan (some t)) (.chan (some t))
  | any : RV σ (.chan none) (.chan none)
inductive RL (σ : Nat → Option Nat) : List Value → List Value → Prop
  | nil : RL σ [] []
  | cons (v v' : Value) (l l' : List Value) (h : RV σ v v') (t : RL σ l l') : RL σ (v :: l) (v' :: l')
end

/-- How one environment's names are another one's. -/
def EnvMap (σ : Nat → Option Nat) (E E2 : Env) : Prop := ∀ b b', σ b = some b' → E.dom b → E2.dom b' ∧ E2.ρ b' = E.ρ b ∧ E2.tot b' = E.tot b ∧ E2.sz b' = E.sz b

/-- The environment of the new names. -/
def Env.anew (E : Env) (k0 : Nat) (L : List Nat) : Env := ⟨fun k => E.dom (un k0 L k) ∧ sg k0 L (un k0 L k) = k, fun k => E.ρ (un k0 L k), fun k => E.tot (un k0 L k), fun k => E.sz (un k0 L k)⟩

theorem anew_map {E : Env} {k0 : Nat} {L : List Nat} (hu : ∀ k, un k0 L (sg k0 L k) = k) : EnvMap (sgO k0 L) E (E.anew k0 L) := fun b b' e hd => by
  cases e
  refine ⟨⟨by rw [hu]; exact hd, by rw [hu]⟩, ?_, ?_, ?_⟩ <;> simp only [Env.anew, hu]

mutual
theorem RV.vr {σ : Nat → Option Nat} {E E2 : Env} (m : EnvMap σ E E2) {v v1 x : Value} (h : VR E v x) (r : RV σ v v1) : VR E2 v1 x := by
  cases h with
  | bool b => cases r; exact .bool b
  | int k n => cases r; exact .int k n
  | float k b => cases r; exact .float k b
  | string s => cases r; exact .string s
  | pnil => cases r; exact .pnil
  | ptr b o hb => cases r with | ptr _ _ b' e => obtain ⟨m1, m2, m3, m4⟩ := m b b' e hb; rw [← m2]; exact .ptr _ o m1
  | snil l c => cases r; exact .snil l c
  | sl b o n c hb hc => cases r with | sl _ _ _ _ b' e => obtain ⟨m1, m2, m3, m4⟩ := m b b' e hb; rw [← m2]; exact .sl _ o n c m1 hc
  | su b o n c hb h1 h2 h3 => cases r with | sl _ _ _ _ b' e => obtain ⟨m1, m2, m3, m4⟩ := m b b' e hb; rw [← m2]; exact .su _ o n c m1 h1 h2 (by rw [m4, m3]; exact h3)
  | se b o o' c hb hc => cases r with | sl _ _ _ _ b' e => obtain ⟨m1, m2, m3, m4⟩ := m b b' e hb; rw [← m2]; exact .se _ o o' c m1 (by rw [m3]; exact hc)
  | mnil => cases r; exact .mnil
  | map b hb => cases r with | map _ b' e => obtain ⟨m1, m2, m3, m4⟩ := m b b' e hb; rw [← m2]; exact .map _ m1
  | func fn q q' cs cs' hf ha hc =>
    cases r with
    | func _ _ a2 _ c2 _ ra rc => exact .func fn _ _ _ _ hf (RL.vl m ha ra) (RL.vl m hc rc)
    | yield _ _ _ => simp [plainFn] at hf
  | yield l hl =>
    cases r with
    | func _ _ _ _ _ hf _ _ => simp [plainFn] at hf
    | yield _ l' e => obtain ⟨m1, m2, m3, m4⟩ := m l l' e hl; rw [← m2]; exact .yield _ m1
  | fnil => cases r; exact .fnil
  | iface t v v' h => cases r with | iface _ _ v2 hr => exact .iface t _ _ (RV.vr m h hr)
  | inil => cases r; exact .inil
  | agg a a' h => cases r with | agg _ a2 hr => exact .agg _ _ (RL.vl m h hr)
  | tuple a a' h => cases r with | tuple _ a2 hr => exact .tuple _ _ (RL.vl m h hr)
  | ub t a => cases r; exact .ub t a
  | any _ h => cases r; exact .any _ h
theorem RL.vl {σ : Nat → Option Nat} {E E2 : Env} (m : EnvMap σ E E2) {l l1 x : List Value} (h : VL E l x) (r : RL σ l l1) : VL E2 l1 x := by
  cases h with
  | nil => cases r; exact .nil
  | cons v v' l l' h t => cases r with | cons _ v2 _ l2 rv rl => exact .cons _ _ _ _ (RV.vr m h rv) (RL.vl m t rl)
end

mutual
/-- Whatever stands for something has a new name. -/
theorem VR.ren {E : Env} (k0 : Nat) (L : List Nat) {v x : Value} (h : VR E v x) : ∃ v1, RV (sgO k0 L) v v1 := by
  cases h with
  | bool b => exact ⟨_, .bool b⟩
  | int k n => exact ⟨_, .int k n⟩
  | float k b => exact ⟨_, .float k b⟩
  | string s => exact ⟨_, .string s⟩
  | pnil => exact ⟨_, .pnil⟩
  | ptr b o hb => exact ⟨_, .ptr b o _ rfl⟩
  | snil l c => exact ⟨_, .snil l c⟩
  | sl b o n c hb hc => exact ⟨_, .sl b o n c _ rfl⟩
  | su b o n c hb h1 h2 h3 => exact ⟨_, .sl b o n _ _ rfl⟩
  | se b o o' c hb hc => exact ⟨_, .sl b o 0 c _ rfl⟩
  | mnil => exact ⟨_, .mnil⟩
  | map b hb => exact ⟨_, .map b _ rfl⟩
  | func fn q q' cs cs' hf ha hc =>
    obtain ⟨a2, h2⟩ := VL.ren k0 L ha
    obtain ⟨c2, h3⟩ := VL.ren k0 L hc
    exact ⟨_, .func fn q a2.toArray cs c2.toArray hf h2 h3⟩
  | yield l hl => exact ⟨_, .yield l _ rfl⟩
  | fnil => exact ⟨_, .fnil⟩
  | iface t v v' h => obtain ⟨v2, h2⟩ := VR.ren k0 L h; exact ⟨_, .iface t v v2 h2⟩
  | inil => exact ⟨_, .inil⟩
  | agg a a' h => obtain ⟨a2, h2⟩ := VL.ren k0 L h; exact ⟨_, .agg a a2.toArray h2⟩
  | tuple a a' h => obtain ⟨a2, h2⟩ := VL.ren k0 L h; exact ⟨_, .tuple a a2.toArray h2⟩
  | ub t a => exact ⟨_, .ub t⟩
  | any _ h => exact ⟨_, .any⟩
theorem VL.ren {E : Env} (k0 : Nat) (L : List Nat) {l x : List Value} (h : VL E l x) : ∃ l1, RL (sgO k0 L) l l1 := by
  cases h with
  | nil => exact ⟨[], .nil⟩
  | cons v v' l l' h t =>
    obtain ⟨v2, h2⟩ := VR.ren k0 L h
    obtain ⟨l2, h3⟩ := VL.ren k0 L t
    exact ⟨v2 :: l2, .cons _ _ _ _ h2 h3⟩
end

open Classical in
noncomputable def renC (k0 : Nat) (L : List Nat) (v : Value) : Value := if h : ∃ v1, RV (sgO k0 L) v v1 then h.choose else v
theorem renC_spec {E : Env} {k0 : Nat} {L : List Nat} {v x : Value} (h : VR E v x) : RV (sgO k0 L) v (renC k0 L v) := by
  have := VR.ren k0 L h
  unfold renC
  rw [dif_pos this]; exact this.choose_spec

theorem plain_rv {σ : Nat → Option Nat} : ∀ (n : Nat) {v : Value}, plainV n v = true → RV σ v v := by
  intro n
  induction n with
  | zero =>
    intro v hp
    cases v with
    | bool b => exact .bool b
    | int k n => exact .int k n
    | float k b => exact .float k b
    | string s => exact .string s
    | pointer a => cases a with | none => exact .pnil | some a => simp [plainV] at hp
    | slice a l c => cases a with | none => exact .snil l c | some a => simp [plainV] at hp
    | map r => cases r with | none => exact .mnil | some a => simp [plainV] at hp
    | nilFunc => exact .fnil
    | nilIface => exact .inil
    | _ => simp [plainV] at hp
  | succ n ih =>
    have key : ∀ {l : List Value}, l.all (plainV n) = true → RL σ l l := by
      intro l
      induction l with
      | nil => intro _; exact .nil
      | cons v l ihl => intro hp; simp only [List.all_cons, Bool.and_eq_true] at hp; exact .cons _ _ _ _ (ih hp.1) (ihl hp.2)
    intro v hp
    cases v with
    | bool b => exact .bool b
    | int k n => exact .int k n
    | float k b => exact .float k b
    | string s => exact .string s
    | pointer a => cases a with | none => exact .pnil | some a => simp [plainV] at hp
    | slice a l c => cases a with | none => exact .snil l c | some a => simp [plainV] at hp
    | map r => cases r with | none => exact .mnil | some a => simp [plainV] at hp
    | nilFunc => exact .fnil
    | nilIface => exact .inil
    | iface t v => simp only [plainV] at hp; exact .iface _ _ _ (ih hp)
    | agg a => simp only [plainV] at hp; exact .agg _ _ (key hp)
    | tuple a => simp only [plainV] at hp; exact .tuple _ _ (key hp)
    | _ => simp [plainV] at hp
theorem plain_rl {σ : Nat → Option Nat} {l : List Value} (h : plainL l = true) : RL σ l l := by
  induction l with
  | nil => exact .nil
  | cons v l ih => simp only [plainL, List.all_cons, Bool.and_eq_true] at h; exact .cons _ _ _ _ (plain_rv 8 h.1) (ih h.2)

mutual
/-- The new value is one. -/
theorem RV.det {σ : Nat → Option Nat} {u v v2 : Value} (h : RV σ u v) (k : RV σ u v2) : v = v2 := by
  cases h with
  | bool b => cases k; rfl
  | int k n => cases k; rfl
  | float k b => cases k; rfl
  | string s => cases k; rfl
  | pnil => cases k; rfl
  | ptr b o b' e => cases k with | ptr _ _ b2 e2 => rw [e] at e2; cases e2; rfl
  | snil l c => cases k; rfl
  | sl b o n c b' e => cases k with | sl _ _ _ _ b2 e2 => rw [e] at e2; cases e2; rfl
  | mnil => cases k; rfl
  | map b b' e => cases k with | map _ b2 e2 => rw [e] at e2; cases e2; rfl
  | func fn q q' cs cs' hf ha hc =>
    cases k with
    | func _ _ a2 _ c2 _ ra rc => rw [Array.ext' (RL.det ha ra), Array.ext' (RL.det hc rc)]
    | yield _ _ _ => simp [plainFn] at hf
  | yield l l' e =>
    cases k with
    | func _ _ _ _ _ hf _ _ => simp [plainFn] at hf
    | yield _ l2 e2 => rw [e] at e2; cases e2; rfl
  | fnil => cases k; rfl
  | iface t v v' h => cases k with | iface _ _ v2 hr => rw [RV.det h hr]
  | inil => cases k; rfl
  | agg a a' h => cases k with | agg _ a2 hr => rw [Array.ext' (RL.det h hr)]
  | tuple a a' h => cases k with | tuple _ a2 hr => rw [Array.ext' (RL.det h hr)]
  | ub t => cases k; rfl
  | any => cases k; rfl
theorem RL.det {σ : Nat → Option Nat} {u v v2 : List Value} (h : RL σ u v) (k : RL σ u v2) : v = v2 := by
  cases h with
  | nil => cases k; rfl
  | cons a b l l' h t => cases k with | cons _ b2 _ l2 hr rt => rw [RV.det h hr, RL.det t rt]
end

/-! ### slots and blocks -/
def Tr.map {α β : Type} (f : α → β) : Tr α → Tr β
  | .e => .e
  | .n l v r => .n (l.map f) (v.map f) (r.map f)
theorem Tr.get_map {α β : Type} (f : α → β) : ∀ (t : Tr α) (k : Nat), (t.map f).get k = (t.get k).map f
  | .e, _ => rfl
  | .n l v r, k => by
    simp only [Tr.map, Tr.get_n]
    by_cases h : k = 0
    · simp [h]
    · by_cases h2 : k % 2 = 1
      · simp only [h, h2, if_true, if_false]; exact Tr.get_map f l _
      · simp only [h, h2, if_false]; exact Tr.get_map f r _

/-- A table with some slots laid over it. -/
def over {α : Type} : Tr α → List (Nat × α) → Tr α
  | J, [] => J
  | J, (t, v) :: l => over (J.set t (some v)) l
theorem over_get {α : Type} : ∀ (l : List (Nat × α)) (J : Tr α) (t : Nat), (∃ v, (t, v) ∈ l ∧ (over J l).get t = some v) ∨ (over J l).get t = J.get t
  | [], J, t => .inr rfl
  | (s, v) :: l, J, t => by
    rcases over_get l (J.set s (some v)) t with ⟨u, h1, h2⟩ | h
    · exact .inl ⟨u, by simp [h1], h2⟩
    · by_cases e : t = s
      · subst e; rw [Tr.get_set_self] at h; exact .inl ⟨v, by simp, h⟩
      · rw [Tr.get_set_ne _ _ e] at h; exact .inr h

/-- These slots hold this, but for the names. -/
def Slots (σ : Nat → Option Nat) (T : Tr Value) : List (Nat × Value) → Prop
  | [] => True
  | (t, v) :: l => (∃ u, T.get t = some u ∧ RV σ u v) ∧ Slots σ T l
theorem Slots.mem {σ : Nat → Option Nat} {T : Tr Value} : ∀ {l : List (Nat × Value)}, Slots σ T l → ∀ t v, (t, v) ∈ l → ∃ u, T.get t = some u ∧ RV σ u v
  | (s, u) :: l, h, t, v, hm => by
    rcases List.mem_cons.1 hm with e | e
    · cases e; exact h.1
    · exact Slots.mem h.2 t v e

inductive RM (σ : Nat → Option Nat) : List MapEntry → List MapEntry → Prop
  | nil : RM σ [] []
  | cons (e e' : MapEntry) (l l' : List MapEntry) (hk : RV σ e.key e'.key) (hv : RV σ e.val e'.val) (t : RM σ l l') : RM σ (e :: l) (e' :: l')
theorem RM.ml {σ : Nat → Option Nat} {E E2 : Env} (m : EnvMap σ E E2) {l x : List MapEntry} (h : ML E l x) {l1 : List MapEntry} (r : RM σ l l1) : ML E2 l1 x := by
  induction h generalizing l1 with
  | nil => cases r; exact .nil
  | cons e e' l l' hk hv t ih => cases r with | cons _ e2 _ l2 rk rv rt => exact .cons _ _ _ _ (RV.vr m hk rk) (RV.vr m hv rv) (ih rt)

inductive RO (σ : Nat → Option Nat) : AObj → AObj → Prop
  | cells (c d c' : List Value) (e : TypeId) (h : RL σ c c') : RO σ (.cells (c ++ d) e) (.cells c' e)
  | map (es es' : List MapEntry) (k : Nat) (h : RM σ es es') : RO σ (.map es k) (.map es' k)
  | loop (r : ALoop) (lv : List (Nat × Value)) (d k0 : Nat) (L : List Nat) (hs : σ = sgO k0 L) (hd : σ r.defs = some d) (h : Slots σ r.T lv) : RO σ (.loop r) (.loop { r with T := over (r.T.map (renC k0 L)) lv, defs := d })
  | defs : RO σ .defs .defs
  | it (s : ByteArray) (p : Nat) : RO σ (.it s p) (.it s p)
theorem RO.same {σ : Nat → Option Nat} {c : List Value} {e : TypeId} (h : plainL c = true) : RO σ (.cells c e) (.cells c e) := by
  have := RO.cells (σ := σ) c [] c e (plain_rl h)
  rwa [List.append_nil] at this

theorem RL.length {σ : Nat → Option Nat} : ∀ {l l' : List Value}, RL σ l l' → l'.length = l.length
  | _, _, .nil => rfl
  | _, _, .cons _ _ _ _ _ t => by simp [RL.length t]

theorem TR.ren {E E2 : Env} {k0 : Nat} {L : List Nat} (m : EnvMap (sgO k0 L) E E2) {T : Tr Value} {nt : Nat} {a : Array Value} (h : TR E T nt a) {lv : List (Nat × Value)} (hs : Slots (sgO k0 L) T lv) : TR E2 (over (T.map (renC k0 L)) lv) nt a := by
  refine ⟨h.1, fun t => ?_⟩
  have ht := h.2 t
  rcases over_get lv (T.map (renC k0 L)) t with ⟨v, h1, h2⟩ | h1
  · obtain ⟨u, hu', hr⟩ := hs.mem t v h1
    rw [h2]
    rw [hu'] at ht
    exact RV.vr m ht hr
  · rw [h1, Tr.get_map]
    cases hg : T.get t with
    | none => rw [hg] at ht; exact RV.vr m ht (.tuple _ _ .nil)
    | some v => rw [hg] at ht; exact RV.vr m ht (renC_spec ht)

theorem OR.ren {P : Program} {σ : Nat → Option Nat} {E E2 : Env} (m : EnvMap σ E E2) {w : World} {b k : Nat} (hb : σ b = some k) (hd : E.dom b) {o o1 : AObj} (h : OR P E w b o) (r : RO σ o o1) : OR P E2 w k o1 := by
  obtain ⟨_, eρ, et, es⟩ := m b k hb hd
  cases r with
  | cells c d c' e hr =>
    obtain ⟨arr, fr, h1, h2, h3, h4, h5, h6⟩ := h
    have hl := hr.length
    rw [List.length_append] at h5 h6
    refine ⟨arr, fr, by rw [eρ]; exact h1, h2, by rw [et]; exact h3, by rw [es]; exact h4, by omega, ?_⟩
    have := h6.take c.length
    rw [List.take_left, List.take_take, Nat.min_eq_left (by omega)] at this
    rw [hl]
    exact RL.vl m this hr
  | map es' es2 ck hr =>
    obtain ⟨es3, h1, h2⟩ := h
    exact ⟨es3, by rw [eρ]; exact h1, h2.perm.elim fun l ⟨q1, q2⟩ => ⟨l, q1, RM.ml m q2 hr⟩, h2.lt, h2.nd⟩
  | loop r lv d k0 L hs' hd' hs =>
    obtain ⟨tm, fn, h1, h2, h3⟩ := h
    subst hs'
    obtain ⟨m1, m2, _, _⟩ := m _ _ hd' h3
    exact ⟨tm, fn, by rw [eρ, m2]; exact h1, h2.ren m hs, m1⟩
  | defs => show _ = _; rw [eρ]; exact h
  | it s p => show _ = _; rw [eρ]; exact h

inductive RD (σ : Nat → Option Nat) : List ADf → List ADf → Prop
  | nil : RD σ [] []
  | mark (d d' : Nat) (l l' : List ADf) (h : σ d = some d') (t : RD σ l l') : RD σ (.mark d :: l) (.mark d' :: l')
  | fn (f : FuncId) (cap args cap' args' : List Value) (l l' : List ADf) (hc : RL σ cap cap') (ha : RL σ args args') (t : RD σ l l') : RD σ (.call f cap args :: l) (.call f cap' args' :: l')
theorem RD.dr {σ : Nat → Option Nat} {E E2 : Env} (m : EnvMap σ E E2) {l : List ADf} {x : List Deferred} (h : DR E l x) {l1 : List ADf} (r : RD σ l l1) : DR E2 l1 x := by
  induction h generalizing l1
  · cases r; exact .nil
  · rename_i d l l' hd t ih
    cases r with | mark _ d' _ _ e rt => obtain ⟨m1, m2, _, _⟩ := m _ _ e hd; rw [← m2]; exact .mark _ _ _ m1 (ih rt)
  · rename_i f cap args cap' args' l l' hc ha t ih
    cases r with | fn _ _ _ c2 a2 _ _ rc ra rt => exact .call f _ _ _ _ _ _ (RL.vl m hc rc) (RL.vl m ha ra) (ih rt)

/-- The blocks of the new state are these of the old one. -/
def Blocks (σ : Nat → Option Nat) (τ : Nat → Nat) (m : Nat) (H H' : Tr AObj) : Prop := ∀ k o, H'.get k = some o → k < m ∧ ∃ o1, H.get (τ k) = some o1 ∧ RO σ o1 o

/-- A STATE, ITS OWN BLOCKS NAMED ANEW, WHAT IS NO LONGER NEEDED LEFT OUT. -/
theorem rc_mk {P : Program} {g0 k0 nt : Nat} {rd : Option Nat} {s : Fs} (L : List Nat) (lv : List (Nat × Value)) (H : Tr AObj) (W : List Nat) (df : List ADf) (hk : k0 ≤ s.n) (hg : g0 ≤ k0) (hrd : ∀ l, rd = some l → l < k0) (hn : L.Nodup) (hL : ∀ x ∈ L, k0 ≤ x ∧ x < JJ) (hJ : k0 + L.length ≤ JJ)
    (hW : subW k0 s.wr W) (hS : Slots (sgO k0 L) s.T lv) (hB : Blocks (sgO k0 L) (un k0 L) (k0 + L.length) s.H H) (hD : RD (sgO k0 L) s.df df) :
    RcM P g0 k0 nt rd s ⟨over (s.T.map (renC k0 L)) lv, H, k0 + L.length, W, df⟩ := by
  have hL' : ∀ x ∈ L, k0 ≤ x := fun x hx => (hL x hx).1
  have hu := un_sg hL' hJ
  have hm := fun E => anew_map (E := E) hu
  refine ⟨Nat.le_add_right _ _, hW, fun E a w hf => ⟨E.anew k0 L, ⟨hf.tr.ren (hm E) hS, ⟨fun k hd => hf.hr.lt _ hd.1, fun k hd => ?_, fun k o ho => ?_, fun i j hi hj e => ?_⟩, fun k hk' => ?_, RD.dr (hm E) hf.df hD, fun g hg' => ?_, fun l hl => ?_, fun k hd => ?_⟩,
    ⟨fun i hi => ?_, fun i hi _ => ?_, fun i hi _ => ?_, fun i hi _ => ?_, rfl, rfl, rfl, Nat.le_refl _, fun _ _ _ => rfl, fun i hi hiJ hd => .inr ⟨un k0 L i, ⟨hd.1, ?_, fun h => ?_⟩, rfl⟩⟩⟩⟩
  · cases hg' : H.get k with
    | none => rfl
    | some o =>
      obtain ⟨h1, o1, h2, _⟩ := hB k o hg'
      exact absurd ⟨hf.hr.live (by rw [h2]; simp), sg_un_new hL' hn h1⟩ hd
  · obtain ⟨h1, o1, h2, h3⟩ := hB k o ho
    exact (hf.hr.obj _ _ h2).ren (hm E) (by unfold sgO; rw [sg_un_new hL' hn h1]) (hf.hr.live (by rw [h2]; simp)) h3
  · have key : ∀ i, H.get i ≠ none → i < k0 + L.length ∧ s.H.get (un k0 L i) ≠ none := fun i hi => by
      cases hg' : H.get i with
      | none => exact absurd hg' hi
      | some o => obtain ⟨h1, o1, h2, _⟩ := hB i o hg'; exact ⟨h1, by rw [h2]; simp⟩
    have e2 := hf.hr.inj _ _ (key i hi).2 (key j hj).2 e
    rw [← sg_un_new hL' hn (key i hi).1, e2, sg_un_new hL' hn (key j hj).1]
  · cases hg' : H.get k with
    | none => rfl
    | some o => have := (hB k o hg').1; have hk'' : k0 + L.length ≤ k := hk'; omega
  · obtain ⟨h1, h2⟩ := hf.gl g hg'
    have hlt : g < k0 := by omega
    refine ⟨⟨by rw [un_low hlt]; exact h1, by rw [un_low hlt, sg_low hlt]⟩, ?_⟩
    show E.ρ (un k0 L g) = g
    rw [un_low hlt]; exact h2
  · have hlt := hrd l hl
    exact ⟨by rw [un_low hlt]; exact hf.rd l hl, by rw [un_low hlt, sg_low hlt]⟩
  · by_cases h : k < k0
    · exact .inl (Nat.lt_of_lt_of_le h (Nat.le_add_right _ _))
    · exact (new_name hd.2 (by omega)).1
  · show (E.dom (un k0 L i) ∧ _) ↔ _
    rw [un_low hi, sg_low hi]; exact ⟨fun h => h.1, fun h => ⟨h, rfl⟩⟩
  · show E.ρ (un k0 L i) = _; rw [un_low hi]
  · show E.tot (un k0 L i) = _; rw [un_low hi]
  · show E.sz (un k0 L i) = _; rw [un_low hi]
  · rcases (new_name hd.2 hi).1 with h | h
    · unfold un
      rw [blt_false hi]
      simp only [cond_false, List.getElem?_eq_getElem (show i - k0 < L.length by omega)]
      exact (hL _ (List.getElem_mem _)).2
    · omega
  · have := (new_name hd.2 hi).2; omega
end Go.Proofs.YtgfjmkjhjfmbeaaGreat
