/- DERIVED. M with symbols, third part: what a part of the code does to the model, in words of M, its own blocks named anew at will. -/
import Derived.Test.YtgfjmkjhjfmbeaaGreatS2
namespace Go.Proofs.YtgfjmkjhjfmbeaaGreat
open Go.RowKit

/-- Names from here on are out of the way. -/
def JJ : Nat := 1099511627776

structure FRn (P : Program) (g0 : Nat) (E : Env) (nt : Nat) (rd : Option Nat) (s : Fs) (a : Act) (w : World) : Prop where
  tr : TR E s.T nt a.tmps
  hr : HR P E s.H.get w
  lw : Low s.n s.H
  df : DR E s.df a.defers
  gl : ∀ g, g < g0 → E.dom g ∧ E.ρ g = g
  rd : ∀ l, rd = some l → E.dom l
  top : ∀ k, E.dom k → k < s.n ∨ JJ ≤ k

/-- What may be written over: what is one's own, and of the others those in W. -/
def Tch (k0 : Nat) (W : List Nat) (E : Env) (i : Nat) : Prop := E.dom i ∧ i < JJ ∧ (i < k0 → i ∈ W)

structure Kept (k0 : Nat) (W : List Nat) (E E' : Env) (w w' : World) : Prop where
  dom : ∀ i, i < k0 → (E'.dom i ↔ E.dom i)
  ρ : ∀ i, i < k0 → E.dom i → E'.ρ i = E.ρ i
  tot : ∀ i, i < k0 → E.dom i → E'.tot i = E.tot i
  sz : ∀ i, i < k0 → E.dom i → E'.sz i = E.sz i
  os : w'.os = w.os
  tp : w'.tape = w.tape
  output : w'.output = w.output
  size : w.heap.size ≤ w'.heap.size
  block : ∀ b, b < w.heap.size → (∀ i, Tch k0 W E i → E.ρ i ≠ b) → w'.heap[b]? = w.heap[b]?
  fresh : ∀ i, k0 ≤ i → i < JJ → E'.dom i → w.heap.size ≤ E'.ρ i ∨ ∃ j, Tch k0 W E j ∧ E.ρ j = E'.ρ i

def subW (k0 : Nat) (W W' : List Nat) : Prop := ∀ k ∈ W, k < k0 → k ∈ W'
theorem subW.refl (k0 : Nat) (W : List Nat) : subW k0 W W := fun _ h _ => h
theorem subW.trans {k0 : Nat} {A B C : List Nat} (h : subW k0 A B) (k : subW k0 B C) : subW k0 A C := fun i hi hk => k i (h i hi hk) hk

theorem Kept.refl (k0 : Nat) (W : List Nat) (E : Env) (w : World) : Kept k0 W E E w w :=
  ⟨fun _ _ => Iff.rfl, fun _ _ _ => rfl, fun _ _ _ => rfl, fun _ _ _ => rfl, rfl, rfl, rfl, Nat.le_refl _, fun _ _ _ => rfl, fun i hi hJ hd => .inr ⟨i, ⟨hd, hJ, fun h => by omega⟩, rfl⟩⟩

theorem Kept.trans {k0 : Nat} {W V : List Nat} {A B C : Env} {w w1 w2 : World} (h : Kept k0 W A B w w1) (k : Kept k0 V B C w1 w2) (hs : subW k0 W V) : Kept k0 V A C w w2 := by
  have tch : ∀ i, Tch k0 W A i → Tch k0 V A i := fun i hi => ⟨hi.1, hi.2.1, fun hk => hs i (hi.2.2 hk) hk⟩
  refine ⟨fun i hi => (k.dom i hi).trans (h.dom i hi), fun i hi hd => ?_, fun i hi hd => ?_, fun i hi hd => ?_, k.os.trans h.os, k.tp.trans h.tp, k.output.trans h.output, Nat.le_trans h.size k.size, fun b hb hx => ?_, fun i hi hJ hd => ?_⟩
  · rw [k.ρ i hi ((h.dom i hi).2 hd), h.ρ i hi hd]
  · rw [k.tot i hi ((h.dom i hi).2 hd), h.tot i hi hd]
  · rw [k.sz i hi ((h.dom i hi).2 hd), h.sz i hi hd]
  · rw [k.block b (Nat.lt_of_lt_of_le hb h.size) (fun i hi e => ?_), h.block b hb (fun i hi => hx i (tch i hi))]
    by_cases hk : i < k0
    · have hd := (h.dom i hk).1 hi.1
      rw [h.ρ i hk hd] at e
      exact hx i ⟨hd, hi.2⟩ e
    · rcases h.fresh i (by omega) hi.2.1 hi.1 with h1 | ⟨j, hj, ej⟩
      · omega
      · exact hx j (tch j hj) (ej.trans e)
  · rcases k.fresh i hi hJ hd with h1 | ⟨j, hj, ej⟩
    · exact .inl (Nat.le_trans h.size h1)
    · by_cases hk : j < k0
      · have hd' := (h.dom j hk).1 hj.1
        exact .inr ⟨j, ⟨hd', hj.2⟩, by rw [← ej, h.ρ j hk hd']⟩
      · rcases h.fresh j (by omega) hj.2.1 hj.1 with h1 | ⟨j', hj', ej'⟩
        · exact .inl (by rw [← ej]; exact h1)
        · exact .inr ⟨j', tch j' hj', ej'.trans ej⟩

theorem Kept.sub {k0 : Nat} {W V : List Nat} {A B : Env} {w w1 : World} (h : Kept k0 W A B w w1) (hs : subW k0 W V) : Kept k0 V A B w w1 := h.trans (.refl k0 V B w1) hs

def SP (P : Program) (g0 k0 : Nat) (E : Env) (w : World) (nt : Nat) (rd : Option Nat) (x : Ex) (s' : Fs) : Exit → Act → World → Prop := fun e a' w' =>
  ∃ E', FRn P g0 E' nt rd s' a' w' ∧ exR E' x e ∧ Kept k0 s'.wr E E' w w'

def Sem (P : Program) (g0 k0 nt : Nat) (rd : Option Nat) (c : Code) (s : Fs) (x : Ex) (s' : Fs) : Prop :=
  k0 ≤ s'.n ∧ subW k0 s.wr s'.wr ∧ ∀ (E : Env) (a : Act) (w : World), FRn P g0 E nt rd s a w → c.wpIn (rdF E rd) 0 P (SP P g0 k0 E w nt rd x s') a w
def LSem (P : Program) (g0 k0 nt : Nat) (rd : Option Nat) (c : Code) (s : Fs) (x : Ex) (s' : Fs) : Prop :=
  k0 ≤ s'.n ∧ subW k0 s.wr s'.wr ∧ ∀ (E : Env) (a : Act) (w : World), FRn P g0 E nt rd s a w → inLoopIn (rdF E rd) 0 P c (SP P g0 k0 E w nt rd x s') a w
def RcM (P : Program) (g0 k0 nt : Nat) (rd : Option Nat) (s s' : Fs) : Prop :=
  k0 ≤ s'.n ∧ subW k0 s.wr s'.wr ∧ ∀ (E : Env) (a : Act) (w : World), FRn P g0 E nt rd s a w → ∃ E', FRn P g0 E' nt rd s' a w ∧ Kept k0 s'.wr E E' w w

def CW (P : Program) (g0 k0 nt : Nat) (rd : Option Nat) (c : Code) (s : Fs) (K : Ex → Fs → Prop) : Prop :=
  (∀ l, rd = some l → l < k0) → k0 ≤ s.n → ∃ x s', Sem P g0 k0 nt rd c s x s' ∧ K x s'
def LW (P : Program) (g0 k0 nt : Nat) (rd : Option Nat) (c : Code) (s : Fs) (K : Ex → Fs → Prop) : Prop :=
  (∀ l, rd = some l → l < k0) → k0 ≤ s.n → ∃ x s', LSem P g0 k0 nt rd c s x s' ∧ K x s'

section
variable {P : Program} {g0 k0 nt : Nat} {rd : Option Nat}

theorem CW.mono {c : Code} {s : Fs} {K K' : Ex → Fs → Prop} (h : CW P g0 k0 nt rd c s K) (hk : ∀ x s', K x s' → K' x s') : CW P g0 k0 nt rd c s K' := fun h1 h2 =>
  let ⟨x, s', h3, h4⟩ := h h1 h2; ⟨x, s', h3, hk _ _ h4⟩
theorem LW.mono {c : Code} {s : Fs} {K K' : Ex → Fs → Prop} (h : LW P g0 k0 nt rd c s K) (hk : ∀ x s', K x s' → K' x s') : LW P g0 k0 nt rd c s K' := fun h1 h2 =>
  let ⟨x, s', h3, h4⟩ := h h1 h2; ⟨x, s', h3, hk _ _ h4⟩

theorem SP.trans {E E1 : Env} {w w1 : World} {s1 s' : Fs} {x : Ex} {e : Exit} {a : Act} {w2 : World} (hk : Kept k0 s1.wr E E1 w w1) (hs : subW k0 s1.wr s'.wr) (h : SP P g0 k0 E1 w1 nt rd x s' e a w2) : SP P g0 k0 E w nt rd x s' e a w2 :=
  let ⟨E', h1, h2, h3⟩ := h; ⟨E', h1, h2, hk.trans h3 hs⟩

theorem rdF_kept {W : List Nat} {E E1 : Env} {w w1 : World} (h : Kept k0 W E E1 w w1) (hrd : ∀ l, rd = some l → l < k0) (hd : ∀ l, rd = some l → E.dom l) : rdF E1 rd = rdF E rd := by
  cases rd with
  | none => rfl
  | some l => simp only [rdF, h.ρ l (hrd l rfl) (hd l rfl)]

/-- What M's evaluation says. -/
theorem sem_of_code {c : Code} {s s' : Fs} {x : Ex} (h : CodeOK P g0 nt rd c s x s') (hJ : s'.n ≤ JJ) (hW : ∀ k ∈ s'.wr, k < JJ) (hk : k0 ≤ s.n) : Sem P g0 k0 nt rd c s x s' := by
  obtain ⟨⟨hg, hwr⟩, hw⟩ := h
  refine ⟨Nat.le_trans hk hg.le, fun i hi _ => hwr i hi, fun E a w hf => ?_⟩
  have hfree : Free E s.n s'.n := fun k h1 h2 hd => by rcases hf.top k hd with h3 | h3 <;> omega
  refine wpIn_mono (hw E w E a w ⟨hf.tr, hf.hr, hf.lw, (Stp.refl E w).sub (fun _ h => by cases h), hf.df, hf.gl, hf.rd⟩ hfree) ?_
  rintro e a' w' ⟨E', hx, ht, hf', he⟩
  have hle := hg.le
  refine ⟨E', ⟨hf'.tr, hf'.hr, hf'.lw, hf'.df, hf'.gl, hf'.rd, fun k hd => ?_⟩, he, ⟨fun i hi => ?_, fun i _ hd => hx.ρ i hd, fun i _ hd => hx.tot i hd, fun i _ hd => hx.sz i hd, hf'.stp.os, hf'.stp.tape, hf'.stp.output, hf'.stp.size, fun b hb hx' => ?_, fun i hi hiJ hd => ?_⟩⟩
  · rcases (ht k).1 hd with h1 | h1
    · rcases hf.top k h1 with h2 | h2
      · exact .inl (by omega)
      · exact .inr h2
    · exact .inl h1.2
  · rw [ht i]; exact ⟨fun h => h.resolve_right (by omega), .inl⟩
  · exact hf'.stp.block b hb (fun id hid hd => hx' id ⟨hd, hW id hid, fun _ => hid⟩)
  · by_cases h1 : E.dom i
    · exact .inr ⟨i, ⟨h1, hiJ, fun h => by omega⟩, (hx.ρ i h1).symm⟩
    · exact (hf'.stp.fresh i h1 hd).imp (fun h => h) (fun ⟨o, ho, hd', e⟩ => ⟨o, ⟨hd', hW o ho, fun _ => ho⟩, e.symm⟩)

theorem sem_seq {a b : Code} {s s1 s' : Fs} {x : Ex} (hrd : ∀ l, rd = some l → l < k0) (h : Sem P g0 k0 nt rd a s .normal s1) (k : Sem P g0 k0 nt rd b s1 x s') : Sem P g0 k0 nt rd (.seq a b) s x s' := by
  obtain ⟨a1, a2, a3⟩ := h
  obtain ⟨b1, b2, b3⟩ := k
  refine ⟨b1, a2.trans b2, fun E ac w hf => wpIn_seq (wpIn_mono (a3 E ac w hf) ?_)⟩
  rintro e a1 w1 ⟨E1, h1, h2, h3⟩
  cases exR_normal h2
  have := b3 E1 a1 w1 h1
  rw [rdF_kept h3 hrd hf.rd] at this
  exact wpIn_mono this (fun e a' w' hq => SP.trans h3 b2 hq)

theorem sem_seqX {a b : Code} {s s1 : Fs} {x : Ex} (hx : x ≠ .normal) (h : Sem P g0 k0 nt rd a s x s1) : Sem P g0 k0 nt rd (.seq a b) s x s1 := by
  obtain ⟨a1, a2, a3⟩ := h
  refine ⟨a1, a2, fun E ac w hf => wpIn_seq (wpIn_mono (a3 E ac w hf) ?_)⟩
  rintro e a1 w1 hp
  obtain ⟨E1, h1, h2, h3⟩ := id hp
  exact then_of hx h2 hp

theorem sem_cond {v : Operand} {t : Bool} {a b : Code} {s s' : Fs} {x : Ex} (hv : aev s.T v = .bool t) (hok : okX g0 v = true) (h : Sem P g0 k0 nt rd (bif t then a else b) s x s') : Sem P g0 k0 nt rd (.cond v a b) s x s' := by
  obtain ⟨a1, a2, a3⟩ := h
  refine ⟨a1, a2, fun E ac w hf => ?_⟩
  have hev : ac.eval v = .bool t := ((aev_rel hf.tr hf.gl hok).isBool t).2 hv
  have := a3 E ac w hf
  cases t
  · exact wpIn_cond_false hev this
  · exact wpIn_cond_true hev this

theorem sem_block {id : Nat} {b : Code} {s s' : Fs} {x x' : Ex} (hx : x' = match x with | .exit i => bif i.beq id then .normal else .exit i | x => x) (h : Sem P g0 k0 nt rd b s x s') : Sem P g0 k0 nt rd (.block id b) s x' s' := by
  obtain ⟨a1, a2, a3⟩ := h
  refine ⟨a1, a2, fun E ac w hf => wpIn_block (wpIn_mono (a3 E ac w hf) ?_)⟩
  rintro e a1 w1 ⟨E1, h1, h2, h3⟩
  cases x with
  | exit i =>
    cases e <;> first | exact False.elim h2 | skip
    rename_i j
    have hj : j = i := h2
    subst hj
    cases hid : j.beq id with
    | true =>
      have := Nat.eq_of_beq_eq_true hid
      simp only [hid, cond_true] at hx
      subst hx
      simp only [Exit.inBlock, this, if_true]
      exact ⟨E1, h1, trivial, h3⟩
    | false =>
      simp only [hid, cond_false] at hx
      subst hx
      have hne : j ≠ id := fun e => by rw [e] at hid; simp at hid
      simp only [Exit.inBlock, hne, if_false]
      exact ⟨E1, h1, rfl, h3⟩
  | _ =>
    simp only [] at hx
    subst hx
    cases e <;> first | exact False.elim h2 | exact ⟨E1, h1, h2, h3⟩

theorem sem_scope {b : Code} {s s' : Fs} {x : Ex} (hng : ∀ l, x ≠ .goto l) (h : Sem P g0 k0 nt rd b s x s') : Sem P g0 k0 nt rd (.scope b) s x s' := by
  obtain ⟨a1, a2, a3⟩ := h
  refine ⟨a1, a2, fun E ac w hf => wpIn_scope_plain (wpIn_mono (a3 E ac w hf) ?_)⟩
  rintro e a1 w1 hp
  obtain ⟨E1, h1, h2, h3⟩ := id hp
  cases e with
  | goto l => cases x <;> first | exact absurd rfl (hng _) | exact False.elim h2
  | _ => exact hp

theorem sem_loop {b : Code} {s s' : Fs} {x : Ex} (h : LSem P g0 k0 nt rd b s x s') : Sem P g0 k0 nt rd (.loop b) s x s' :=
  ⟨h.1, h.2.1, fun E ac w hf => wpIn_inLoop (h.2.2 E ac w hf)⟩

theorem lsem_round {b : Code} {s s1 s' : Fs} {x : Ex} (hrd : ∀ l, rd = some l → l < k0) (h : Sem P g0 k0 nt rd b s .normal s1) (k : LSem P g0 k0 nt rd b s1 x s') : LSem P g0 k0 nt rd b s x s' := by
  obtain ⟨a1, a2, a3⟩ := h
  obtain ⟨b1, b2, b3⟩ := k
  refine ⟨b1, a2.trans b2, fun E ac w hf => inLoop_round (wpIn_mono (a3 E ac w hf) ?_)⟩
  rintro e a1 w1 ⟨E1, h1, h2, h3⟩
  cases exR_normal h2
  have := b3 E1 a1 w1 h1
  rw [rdF_kept h3 hrd hf.rd] at this
  intro fb k cs q1 q2 q3
  obtain ⟨e, a', w', hq, harr⟩ := this fb k cs q1 q2 q3
  exact ⟨e, a', w', SP.trans h3 b2 hq, harr⟩

theorem lsem_out {b : Code} {s s1 : Fs} {x : Ex} (hx : x ≠ .normal) (h : Sem P g0 k0 nt rd b s x s1) : LSem P g0 k0 nt rd b s x s1 := by
  obtain ⟨a1, a2, a3⟩ := h
  refine ⟨a1, a2, fun E ac w hf => inLoop_round (wpIn_mono (a3 E ac w hf) ?_)⟩
  rintro e a1 w1 hp
  obtain ⟨E1, h1, h2, h3⟩ := id hp
  exact then_of hx h2 hp

theorem sem_pre {c : Code} {s s1 s' : Fs} {x : Ex} (hrd : ∀ l, rd = some l → l < k0) (h : RcM P g0 k0 nt rd s s1) (k : Sem P g0 k0 nt rd c s1 x s') : Sem P g0 k0 nt rd c s x s' := by
  obtain ⟨a1, a2, a3⟩ := h
  obtain ⟨b1, b2, b3⟩ := k
  refine ⟨b1, a2.trans b2, fun E ac w hf => ?_⟩
  obtain ⟨E1, h1, h3⟩ := a3 E ac w hf
  have := b3 E1 ac w h1
  rw [rdF_kept h3 hrd hf.rd] at this
  exact wpIn_mono this (fun e a' w' hq => SP.trans h3 b2 hq)
theorem lsem_pre {c : Code} {s s1 s' : Fs} {x : Ex} (hrd : ∀ l, rd = some l → l < k0) (h : RcM P g0 k0 nt rd s s1) (k : LSem P g0 k0 nt rd c s1 x s') : LSem P g0 k0 nt rd c s x s' := by
  obtain ⟨a1, a2, a3⟩ := h
  obtain ⟨b1, b2, b3⟩ := k
  refine ⟨b1, a2.trans b2, fun E ac w hf => ?_⟩
  obtain ⟨E1, h1, h3⟩ := a3 E ac w hf
  have := b3 E1 ac w h1
  rw [rdF_kept h3 hrd hf.rd] at this
  intro fb k cs q1 q2 q3
  obtain ⟨e, a', w', hq, harr⟩ := this fb k cs q1 q2 q3
  exact ⟨e, a', w', SP.trans h3 b2 hq, harr⟩

theorem CW.pre {c : Code} {s s1 : Fs} {K : Ex → Fs → Prop} (h : RcM P g0 k0 nt rd s s1) (k : CW P g0 k0 nt rd c s1 K) : CW P g0 k0 nt rd c s K := fun h1 _ =>
  let ⟨x, s', h3, h4⟩ := k h1 h.1; ⟨x, s', sem_pre h1 h h3, h4⟩
theorem LW.pre {c : Code} {s s1 : Fs} {K : Ex → Fs → Prop} (h : RcM P g0 k0 nt rd s s1) (k : LW P g0 k0 nt rd c s1 K) : LW P g0 k0 nt rd c s K := fun h1 _ =>
  let ⟨x, s', h3, h4⟩ := k h1 h.1; ⟨x, s', lsem_pre h1 h h3, h4⟩

/-- A loop: a round, then the loop. -/
theorem LW.round {c : Code} {s : Fs} {K : Ex → Fs → Prop} (h : CW P g0 k0 nt rd c s (fun x s1 => match x with | .normal => LW P g0 k0 nt rd c s1 K | x => K x s1)) : LW P g0 k0 nt rd c s K := fun h1 h2 => by
  obtain ⟨x, s1, h3, h4⟩ := h h1 h2
  by_cases hx : x = .normal
  · subst hx
    obtain ⟨x', s', h5, h6⟩ := h4 h1 h3.1
    exact ⟨x', s', lsem_round h1 h3 h5, h6⟩
  · exact ⟨x, s1, lsem_out hx h3, by cases x <;> first | exact absurd rfl hx | exact h4⟩
end

section
variable {P : Program} {g0 : Nat} (tb : Tb P g0) (sy : List Nat) (k0 nt : Nat) (rd : Option Nat)

def toK (K : Ex → Fs → Prop) (x : Ex) (s : Fs) : Prop := bif s.n.ble JJ && s.wr.all (fun k => Nat.blt k JJ) then K x s else False
theorem toK_spec {K : Ex → Fs → Prop} {x : Ex} {s : Fs} (h : toK K x s) : s.n ≤ JJ ∧ (∀ k ∈ s.wr, k < JJ) ∧ K x s := by
  obtain ⟨h1, h2⟩ := bif_false h
  simp only [Bool.and_eq_true] at h1
  exact ⟨Nat.le_of_ble_eq_true h1.1, fun k hk => Nat.le_of_ble_eq_true (List.all_eq_true.1 h1.2 k hk), h2⟩

/-- A check: by the kernel as it goes, or a side condition. -/
def andK (km b : Bool) (A : Prop) : Prop := bif km then (bif b then A else False) else (b = true ∧ A)
theorem andK_spec {km b : Bool} {A : Prop} (h : andK km b A) : b = true ∧ A := by
  unfold andK at h
  cases km with
  | true => exact bif_false h
  | false => exact h

/-- What a part of the code does, told with a continuation. -/
def sx : Code → Fs → (Ex → Fs → Prop) → Prop
  | .skip, s, K => K .normal s
  | .label _, s, K => K .normal s
  | .seq a b, s, K => sx a s fun x s' => (match x with | .normal => sx b s' K | x => K x s')
  | .cond (.tmp t) a b, ⟨T, H, n, wr, df⟩, K => askB T t (fun T => sx a ⟨T, H, n, wr, df⟩ K) (fun T => sx b ⟨T, H, n, wr, df⟩ K) False
  | .cond v a b, s, K => (match aev s.T v with | .bool t => bif okX g0 v then brK t (sx a s K) (sx b s K) else False | _ => False)
  | .block id b, s, K => sx b s fun x s' => (match x with | .exit i => bif i.beq id then K .normal s' else K (.exit i) s' | x => K x s')
  | .scope b, s, K => sx b s fun x s' => (match x with | .goto _ => False | x => K x s')
  | .exit id, s, K => K (.exit id) s
  | .ret, s, K => K .ret s
  | .loop b, s, K => LW P g0 k0 nt rd b s K
  | .region _ ops d, s, K =>
    bif d then (andK tb.km (regOk ops (preAll ops.toList [])) (frcLN (preAll ops.toList []) fun pre => frcLN (planOf ops pre) fun plan => sxDraw tb sy nt rd ops pre plan 0 true [] s (toK K .normal))) else sxOps tb sy nt rd ops (List.range ops.size) s (toK K)
  | .rangeFunc g ps asg b, s, K => CW P g0 k0 nt rd (.rangeFunc g ps asg b) s K
  | _, _, _ => False

theorem sx_ok (hm : P.follows .mixedOrders = true) : ∀ (c : Code) (s : Fs) (K : Ex → Fs → Prop), sx tb sy k0 nt rd c s K → CW P g0 k0 nt rd c s K := by
  have leaf : ∀ (c : Code) (s : Fs) (x : Ex) (K : Ex → Fs → Prop), (∀ (E : Env) (Q : Exit → Act → World → Prop) (a : Act) (w : World), (∀ e, exR E x e → Q e a w) → c.wpIn (rdF E rd) 0 P Q a w) → K x s → CW P g0 k0 nt rd c s K := fun c s x K h hk _ h2 =>
    ⟨x, s, ⟨h2, .refl _ _, fun E a w hf => h E _ a w (fun e he => ⟨E, hf, he, .refl _ _ _ _⟩)⟩, hk⟩
  intro c
  induction c with
  | skip => intro s K h; exact leaf _ s .normal K (fun E Q a w h => wpIn_skip (h .normal trivial)) h
  | label l => intro s K h; exact leaf _ s .normal K (fun E Q a w h => wpIn_label (h .normal trivial)) h
  | exit id => intro s K h; exact leaf _ s (.exit id) K (fun E Q a w h => wpIn_exit (h (.exit id) rfl)) h
  | ret => intro s K h; exact leaf _ s .ret K (fun E Q a w h => wpIn_ret (h .ret trivial)) h
  | goto l => intro s K h; exact h.elim
  | refuse m => intro s K h; exact h.elim
  | rangeFunc g ps asg b => intro s K h; exact h
  | loop b _ =>
    intro s K h h1 h2
    obtain ⟨x, s', h3, h4⟩ := (show LW P g0 k0 nt rd b s K from h) h1 h2
    exact ⟨x, s', sem_loop h3, h4⟩
  | seq a b iha ihb =>
    intro s K h h1 h2
    obtain ⟨x, s1, h3, h4⟩ := iha s _ h h1 h2
    by_cases hx : x = .normal
    · subst hx
      obtain ⟨x', s', h5, h6⟩ := ihb s1 K h4 h1 h3.1
      exact ⟨x', s', sem_seq h1 h3 h5, h6⟩
    · exact ⟨x, s1, sem_seqX hx h3, by cases x <;> first | exact absurd rfl hx | exact h4⟩
  | cond v a b iha ihb =>
    intro s K h h1 h2
    have main : ∀ (s : Fs) (t : Bool), aev s.T v = .bool t → okX g0 v = true → (bif t then CW P g0 k0 nt rd a s K else CW P g0 k0 nt rd b s K) → k0 ≤ s.n → ∃ x s', Sem P g0 k0 nt rd (.cond v a b) s x s' ∧ K x s' := by
      intro s t hv hok h h2
      cases t
      · obtain ⟨x, s', h3, h4⟩ := h h1 h2
        exact ⟨x, s', sem_cond hv hok h3, h4⟩
      · obtain ⟨x, s', h3, h4⟩ := h h1 h2
        exact ⟨x, s', sem_cond hv hok h3, h4⟩
    cases v with
    | tmp t =>
      obtain ⟨T, H, n, wr, df⟩ := s
      unfold sx at h
      rcases askB_imp h with ⟨h3, h4⟩ | ⟨h3, h4⟩ | ⟨_, h4⟩
      · exact main _ true (by simp [aev, h3]) rfl (iha _ K h4) h2
      · exact main _ false (by simp [aev, h3]) rfl (ihb _ K h4) h2
      · exact h4.elim
    | _ =>
      unfold sx at h
      split at h
      · rename_i t hv
        obtain ⟨hok, h⟩ := bif_false h
        refine main s t hv hok ?_ h2
        cases t
        · exact ihb s K h
        · exact iha s K h
      · exact h.elim
  | block id b ih =>
    intro s K h h1 h2
    obtain ⟨x, s', h3, h4⟩ := ih s _ h h1 h2
    refine ⟨_, s', sem_block rfl h3, ?_⟩
    cases x with
    | exit i => simp only [] at h4 ⊢; cases hb : i.beq id <;> rw [hb] at h4 <;> exact h4
    | _ => exact h4
  | scope b ih =>
    intro s K h h1 h2
    obtain ⟨x, s', h3, h4⟩ := ih s _ h h1 h2
    refine ⟨x, s', sem_scope (fun l e => by subst e; exact h4) h3, ?_⟩
    cases x <;> first | exact h4 | exact h4.elim
  | region id ops d =>
    intro s K h h1 h2
    unfold sx at h
    cases d with
    | true =>
      simp only [cond_true] at h
      obtain ⟨hreg, h⟩ := andK_spec h
      rw [frcLN_eq, frcLN_eq] at h
      obtain ⟨s', h3, h4⟩ := sxDraw_imp tb sy _ _ _ _ _ _ (fun _ r hr => by cases hr) h
      obtain ⟨h5, h7, h6⟩ := toK_spec h4
      exact ⟨.normal, s', sem_of_code (evDraw_ok hm (tb.go_ok hm) hreg h3) h5 h7 h2, h6⟩
    | false =>
      simp only [cond_false] at h
      obtain ⟨x, s', h3, h4⟩ := sxOps_imp tb sy _ _ _ h
      obtain ⟨h5, h7, h6⟩ := toK_spec h4
      exact ⟨x, s', sem_of_code (evRegion_ok (tb.go_ok hm) h3) h5 h7 h2, h6⟩
end
end Go.Proofs.YtgfjmkjhjfmbeaaGreat
