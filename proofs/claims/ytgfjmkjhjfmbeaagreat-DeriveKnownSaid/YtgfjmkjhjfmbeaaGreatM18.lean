/- DERIVED. The machine M, eighteenth part: regions whose order is open: M's own way through. -/
import Derived.Test.YtgfjmkjhjfmbeaaGreatM17
namespace Go.Proofs.YtgfjmkjhjfmbeaaGreat
open Go.RowKit

theorem guard_eq2 {E : Env} {T : Tr Value} {tmps : Array Value} {ops : Array Oper} {o : Oper} (h : ∀ t ∈ o.looksAt ops, VR E ((T.get t).getD undef) (tmps.getD t undef)) : Region.wanted o (yielded ops tmps) = guardOk ops T o := by
  unfold Region.wanted guardOk
  cases hg : o.guard with
  | none => rfl
  | some jw =>
    obtain ⟨j, want⟩ := jw
    simp only []
    unfold yielded
    cases hd : (ops[j]?).bind (·.dst) with
    | none => rfl
    | some t =>
      simp only [Option.bind_some]
      have ht := h t (by unfold Oper.looksAt; rw [hg]; simp [hd])
      have key : ∀ b, tmps[t]? = some (.bool b) ↔ T.get t = some (.bool b) := by
        intro b
        have hb := ht.isBool b
        constructor
        · intro e
          have : tmps.getD t undef = .bool b := by rw [Array.getD_eq_getD_getElem?, e]; rfl
          have := hb.1 this
          cases hT : T.get t with
          | none => rw [hT] at this; cases this
          | some v => rw [hT] at this; simp at this; rw [this]
        · intro e
          rw [e] at hb
          have := hb.2 rfl
          rw [Array.getD_eq_getD_getElem?] at this
          cases hT : tmps[t]? with
          | none => rw [hT] at this; cases this
          | some v => rw [hT] at this; simp at this; rw [this]
      cases hT : T.get t with
      | none =>
        cases hA : tmps[t]? with
        | none => rfl
        | some v =>
          cases v <;> try rfl
          rename_i b
          have := (key b).1 hA
          rw [hT] at this; cases this
      | some u =>
        cases u with
        | bool b => rw [(key b).2 hT]; rfl
        | _ =>
          cases hA : tmps[t]? with
          | none => rfl
          | some v =>
            cases v <;> try rfl
            rename_i b
            have := (key b).1 hA
            rw [hT] at this; cases this

theorem aev_rel2 {g0 : Nat} {E : Env} {T : Tr Value} {a : Act} {ops : Array Oper} {o : Oper} (h : ∀ t ∈ o.looksAt ops, VR E ((T.get t).getD undef) (a.tmps.getD t undef)) (hg : ∀ g, g < g0 → E.dom g ∧ E.ρ g = g) (hok : okOps g0 o = true) : ∀ x ∈ o.op.operands, VR E (aev T x) (a.eval x) := by
  intro x hx
  have hox := List.all_eq_true.1 hok x (by simpa using hx)
  cases x with
  | tmp t => exact h t (by unfold Oper.looksAt; simp only [List.mem_append, List.mem_filterMap]; exact .inl ⟨.tmp t, by simpa using hx, rfl⟩)
  | const v => exact plain_refl 8 hox
  | global g =>
    have hlt : g + 1 ≤ g0 := Nat.le_of_ble_eq_true hox
    have := VR.ptr (E := E) g 0 (hg g hlt).1
    rw [(hg g hlt).2] at this
    exact this
  | func f => exact .func _ _ _ _ _ rfl .nil .nil

/-- What is hidden from a call. -/
def Hid1 (pre : List Nat) (i : Nat) (rs : List Rec) (k : Nat) : Prop := ∃ r ∈ rs, freeOf pre i r.i = true ∧ r.lo ≤ k ∧ k < r.hi

theorem fold_none (H : Tr AObj) : ∀ (l : List Nat) (k : Nat), (l.foldl (fun H k => H.set k none) H).get k = if k ∈ l then none else H.get k := by
  intro l
  induction l generalizing H with
  | nil => intro k; simp
  | cons a l ih =>
    intro k
    rw [List.foldl_cons, ih]
    by_cases h : k ∈ l
    · simp [h]
    · by_cases hk : k = a
      · subst hk; simp [h, Tr.get_set_self]
      · simp [h, hk, Tr.get_set_ne _ _ hk]
theorem fold_back (H0 H : Tr AObj) : ∀ (l : List Nat) (k : Nat), (l.foldl (fun H k => H.set k (H0.get k)) H).get k = if k ∈ l then H0.get k else H.get k := by
  intro l
  induction l generalizing H with
  | nil => intro k; simp
  | cons a l ih =>
    intro k
    rw [List.foldl_cons, ih]
    by_cases h : k ∈ l
    · simp [h]
    · by_cases hk : k = a
      · subst hk; simp [h, Tr.get_set_self]
      · simp [h, hk, Tr.get_set_ne _ _ hk]

open Classical in
theorem hide_get (pre : List Nat) (i : Nat) : ∀ (rs : List Rec) (H : Tr AObj) (k : Nat), (hide pre i H rs).get k = if Hid1 pre i rs k then none else H.get k
  | [], H, k => by simp only [hide]; rw [if_neg (fun ⟨r, hr, _⟩ => by cases hr)]
  | r :: rs, H, k => by
    rw [hide, hide_get pre i rs]
    by_cases h1 : Hid1 pre i rs k
    · have : Hid1 pre i (r :: rs) k := by obtain ⟨x, hx, h⟩ := h1; exact ⟨x, by simp [hx], h⟩
      rw [if_pos h1, if_pos this]
    · rw [if_neg h1]
      cases hf : freeOf pre i r.i with
      | false =>
        have : ¬ Hid1 pre i (r :: rs) k := by
          rintro ⟨x, hx, h, h'⟩
          rcases List.mem_cons.1 hx with rfl | hx
          · rw [hf] at h; cases h
          · exact h1 ⟨x, hx, h, h'⟩
        rw [if_neg this]; rfl
      | true =>
        simp only [cond_true]
        rw [fold_none]
        by_cases hk : r.lo ≤ k ∧ k < r.hi
        · rw [if_pos ((mem_seqL _ _ _).2 ⟨hk.1, by omega⟩), if_pos ⟨r, by simp, hf, hk⟩]
        · rw [if_neg (fun h => hk (by have := (mem_seqL _ _ _).1 h; omega)), if_neg]
          rintro ⟨x, hx, h, h'⟩
          rcases List.mem_cons.1 hx with rfl | hx
          · exact hk h'
          · exact h1 ⟨x, hx, h, h'⟩
open Classical in
theorem unhide_get (pre : List Nat) (i : Nat) (H0 : Tr AObj) : ∀ (rs : List Rec) (H : Tr AObj) (k : Nat), (unhide pre i H0 H rs).get k = if Hid1 pre i rs k then H0.get k else H.get k
  | [], H, k => by simp only [unhide]; rw [if_neg (fun ⟨r, hr, _⟩ => by cases hr)]
  | r :: rs, H, k => by
    rw [unhide, unhide_get pre i H0 rs]
    by_cases h1 : Hid1 pre i rs k
    · have : Hid1 pre i (r :: rs) k := by obtain ⟨x, hx, h⟩ := h1; exact ⟨x, by simp [hx], h⟩
      rw [if_pos h1, if_pos this]
    · rw [if_neg h1]
      cases hf : freeOf pre i r.i with
      | false =>
        have : ¬ Hid1 pre i (r :: rs) k := by
          rintro ⟨x, hx, h, h'⟩
          rcases List.mem_cons.1 hx with rfl | hx
          · rw [hf] at h; cases h
          · exact h1 ⟨x, hx, h, h'⟩
        rw [if_neg this]; rfl
      | true =>
        simp only [cond_true]
        rw [fold_back]
        by_cases hk : r.lo ≤ k ∧ k < r.hi
        · rw [if_pos ((mem_seqL _ _ _).2 ⟨hk.1, by omega⟩), if_pos ⟨r, by simp, hf, hk⟩]
        · rw [if_neg (fun h => hk (by have := (mem_seqL _ _ _).1 h; omega)), if_neg]
          rintro ⟨x, hx, h, h'⟩
          rcases List.mem_cons.1 hx with rfl | hx
          · exact hk h'
          · exact h1 ⟨x, hx, h, h'⟩

theorem GD_out {G0 : Gh} {k : Nat} {D : Nat → Prop} : ∀ {rs : List Rec}, (∀ r ∈ rs, inK r k ≠ true) → GD D G0 rs k = G0 k
  | [], _ => rfl
  | r :: rs, h => by simp only [GD]; rw [if_neg (fun x => h r (by simp) x.2)]; exact GD_out (fun r' hr' => h r' (by simp [hr']))

theorem upd_in : ∀ (us : List (Nat × Option AObj)) (G G' : Gh) (j : Nat), j ∈ us.map (fun u => u.1) → upd us G j = upd us G' j
  | (i, x) :: us, G, G', j, h => by
    rw [upd, upd]
    by_cases hm : j ∈ us.map (fun u => u.1)
    · exact upd_in us _ _ j hm
    · simp only [List.map_cons, List.mem_cons] at h
      have hj := h.resolve_right hm
      rw [upd_out us _ j hm, upd_out us _ j hm]
      simp [gset, hj]

/-- M on its way through such a region. -/
structure CI (P : Program) (g0 : Nat) (rd : Option Nat) (nt : Nat) (ops : Array Oper) (s0 : Fs) (rs : List Rec) (done : Nat) (s : Fs) : Prop where
  good : Good ops (preAll ops.toList []) s0.n nt (RecOK P g0 rd nt ops (fun t => (s0.T.get t).getD undef) s0.H.get (Low s0.n s0.H)) rs
  t : ∀ t, (s.T.get t).getD undef = TD ops (fun _ => True) (fun t => (s0.T.get t).getD undef) rs t
  h : ∀ k, k < s.n → s.H.get k = GD (fun _ => True) s0.H.get rs k
  n : s0.n ≤ s.n
  hi : ∀ r ∈ rs, r.hi ≤ s.n
  tile : ∀ k, (s0.n ≤ k ∧ k < s.n) ↔ ∃ r ∈ rs, r.lo ≤ k ∧ k < r.hi
  bits : ∀ j, Nat.testBit done j = true ↔ ∃ r ∈ rs, r.i = j
  low : Low s0.n s0.H → Low s.n s.H
  wr : (∀ r ∈ rs, ∀ k ∈ r.W, k ∈ s.wr) ∧ ∀ k ∈ s0.wr, k ∈ s.wr
  df : s.df = s0.df

section
variable {P : Program} {g0 : Nat} {rd : Option Nat} {nt : Nat} {ops : Array Oper} {s0 : Fs} {rs : List Rec} {done : Nat} {s : Fs}

/-- One more. -/
theorem CI.push (h : CI P g0 rd nt ops s0 rs done s) {r : Rec} {s1 : Fs} {o : Oper} (ho : ops[r.i]? = some o) (hd : (!(done.testBit r.i)) = true) (hp : ((preAll ops.toList []).getD r.i 0 &&& done).beq ((preAll ops.toList []).getD r.i 0) = true) (hfit : fits (preAll ops.toList []) r rs = true)
    (hput : putT nt s.T o.dst r.v = some s1.T) (hlo : r.lo = s.n) (hhi : r.hi = s1.n) (hle : s.n ≤ s1.n) (hdf : s1.df = s.df) (hwr : (∀ k ∈ r.W, k ∈ s1.wr) ∧ ∀ k ∈ s.wr, k ∈ s1.wr)
    (hlow : Low s.n s.H → Low s1.n s1.H) (hh : ∀ k, k < s1.n → s1.H.get k = if inK r k = true then r.Hout.get k else s.H.get k) (hok : RecOK P g0 rd nt ops (fun t => (s0.T.get t).getD undef) s0.H.get (Low s0.n s0.H) r rs) :
    CI P g0 rd nt ops s0 (r :: rs) (done ||| 2 ^ r.i) s1 := by
  have hdst : dstOf ops r.i = o.dst := by simp [dstOf, ho]
  refine ⟨⟨hok, hfit, fun r' hr' e => ?_, fun i hi => ?_, fun r' hr' => by rw [hlo]; exact h.hi r' hr', by rw [hlo]; exact h.n, by rw [hlo, hhi]; exact hle, fun d hdd => ?_, h.good⟩, fun t => ?_, fun k hk => ?_, Nat.le_trans h.n hle, fun r' hr' => ?_, fun k => ?_, fun j => ?_, fun h0 => hlow (h.low h0), ⟨fun r' hr' k hk => ?_, fun k hk => hwr.2 k (h.wr.2 k hk)⟩, by rw [hdf, h.df]⟩
  · have := (h.bits r.i).2 ⟨r', hr', e⟩
    rw [this] at hd; simp at hd
  · have hp' := Nat.eq_of_beq_eq_true hp
    have : Nat.testBit ((preAll ops.toList []).getD r.i 0 &&& done) i = true := by rw [hp']; exact hi
    rw [Nat.testBit_and, Bool.and_eq_true] at this
    exact (h.bits i).1 this.2
  · rw [hdst] at hdd
    rw [hdd] at hput
    simp only [putT] at hput
    cases hb : Nat.blt d nt with
    | false => simp [hb] at hput
    | true => exact Nat.le_of_ble_eq_true hb
  · simp only [TD, hdst, true_and]
    cases hdt : o.dst with
    | none => rw [hdt] at hput; simp [putT] at hput; rw [← hput]; simp; exact h.t t
    | some d =>
      rw [hdt] at hput
      simp only [putT] at hput
      cases hb : Nat.blt d nt with
      | false => simp [hb] at hput
      | true =>
        simp [hb] at hput
        rw [← hput, Tr.get_set]
        by_cases htd : t = d
        · subst htd; simp
        · rw [if_neg htd, if_neg (by simpa using Ne.symm htd)]; exact h.t t
  · rw [hh k hk]
    simp only [GD, true_and]
    by_cases hi : inK r k = true
    · rw [if_pos hi, if_pos hi]
    · rw [if_neg hi, if_neg hi]
      refine h.h k ?_
      rcases Nat.lt_or_ge k s.n with h1 | h1
      · exact h1
      · exact absurd (inK_iff.2 (.inr ⟨by rw [hlo]; exact h1, by rw [hhi]; exact hk⟩)) hi
  · rcases List.mem_cons.1 hr' with rfl | hr'
    · exact Nat.le_of_eq hhi
    · exact Nat.le_trans (h.hi r' hr') hle
  · constructor
    · rintro ⟨h1, h2⟩
      rcases Nat.lt_or_ge k s.n with h3 | h3
      · obtain ⟨r', hr', h4⟩ := (h.tile k).1 ⟨h1, h3⟩
        exact ⟨r', by simp [hr'], h4⟩
      · exact ⟨r, by simp, by omega, by omega⟩
    · rintro ⟨r', hr', h1, h2⟩
      rcases List.mem_cons.1 hr' with rfl | hr'
      · have := h.n; omega
      · have := (h.tile k).2 ⟨r', hr', h1, h2⟩; omega
  · rw [Nat.testBit_or, Bool.or_eq_true, Nat.testBit_two_pow, decide_eq_true_eq, h.bits j]
    constructor
    · rintro (⟨r', hr', e⟩ | e)
      · exact ⟨r', by simp [hr'], e⟩
      · exact ⟨r, by simp, e⟩
    · rintro ⟨r', hr', e⟩
      rcases List.mem_cons.1 hr' with rfl | hr'
      · exact .inr e
      · exact .inl ⟨r', hr', e⟩
  · rcases List.mem_cons.1 hr' with rfl | hr'
    · exact hwr.1 k hk
    · exact hwr.2 k (h.wr.1 r' hr' k hk)
end
end Go.Proofs.YtgfjmkjhjfmbeaaGreat
