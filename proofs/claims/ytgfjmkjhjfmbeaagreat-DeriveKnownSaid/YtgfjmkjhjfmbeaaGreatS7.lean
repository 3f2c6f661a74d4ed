/- DERIVED. M with symbols, seventh part: loops. -/
import Derived.Test.YtgfjmkjhjfmbeaaGreatS6
namespace Go.Proofs.YtgfjmkjhjfmbeaaGreat
open Go.RowKit

def tab {α : Type} : Nat → Nat → Nat → (Nat → Option α) → Tr α
  | 0, _, _, _ => .e
  | d + 1, p, st, f => .n (tab d (p + st) (2 * st) f) (f p) (tab d (p + 2 * st) (2 * st) f)
theorem tab_get {α : Type} (f : Nat → Option α) : ∀ (d p st k : Nat), (tab d p st f).get k = if k + 1 < 2 ^ d then f (p + st * k) else none
  | 0, p, st, k => by simp [tab, Tr.get_e]
  | d + 1, p, st, k => by
    have hp : 2 ^ (d + 1) = 2 * 2 ^ d := by rw [Nat.pow_succ]; omega
    have h1 : 1 ≤ 2 ^ d := Nat.one_le_two_pow
    simp only [tab, Tr.get_n]
    by_cases h : k = 0
    · subst h; simp
    · by_cases h2 : k % 2 = 1
      · simp only [h, h2, if_true, if_false]
        rw [tab_get f d]
        have e : p + st + 2 * st * (k / 2) = p + st * k := by
          obtain ⟨j, hj⟩ : ∃ j, k = 2 * j + 1 := ⟨k / 2, by omega⟩
          have hk : k / 2 = j := by omega
          rw [hk, hj, Nat.mul_add, Nat.mul_one, Nat.mul_comm 2 st, Nat.mul_assoc]; omega
        rw [e]
        by_cases h3 : k / 2 + 1 < 2 ^ d
        · rw [if_pos h3, if_pos (by omega)]
        · rw [if_neg h3, if_neg (by omega)]
      · simp only [h, h2, if_false]
        rw [tab_get f d]
        have e : p + 2 * st + 2 * st * (k / 2 - 1) = p + st * k := by
          obtain ⟨j, hj⟩ : ∃ j, k = 2 * j + 2 := ⟨k / 2 - 1, by omega⟩
          have hk : k / 2 - 1 = j := by omega
          rw [hk, hj, Nat.mul_add, Nat.mul_comm 2 st, Nat.mul_assoc]; omega
        rw [e]
        by_cases h3 : k / 2 - 1 + 1 < 2 ^ d
        · rw [if_pos h3, if_pos (by omega)]
        · rw [if_neg h3, if_neg (by omega)]

def lkp {α : Type} (k : Nat) : List (Nat × α) → Option α → Option α
  | [], d => d
  | (t, v) :: l, d => bif t.beq k then some v else lkp k l d
theorem lkp_get {α : Type} (k : Nat) (d : Option α) : ∀ l : List (Nat × α), (∃ v, (k, v) ∈ l ∧ lkp k l d = some v) ∨ lkp k l d = d
  | [] => .inr rfl
  | (t, v) :: l => by
    unfold lkp
    cases hb : t.beq k with
    | true => have := Nat.eq_of_beq_eq_true hb; subst this; exact .inl ⟨v, by simp, rfl⟩
    | false => exact (lkp_get k d l).imp (fun ⟨u, h1, h2⟩ => ⟨u, by simp [h1], h2⟩) (fun h => h)

/-- A frame's slots: some are told, the others hold whatever they hold. -/
def slots (d : Nat) (lv : List (Nat × Value)) (f : Nat → Option Value) : Tr Value := tab d 0 1 fun k => lkp k lv (f k)
/-- A heap of these blocks. -/
def heap (d : Nat) (bs : List (Nat × AObj)) : Tr AObj := tab d 0 1 fun k => lkp k bs none

def BlkL (σ : Nat → Option Nat) (τ : Nat → Nat) (m : Nat) (H : Tr AObj) : List (Nat × AObj) → Prop
  | [] => True
  | (k, o) :: l => (k < m ∧ ∃ o1, H.get (τ k) = some o1 ∧ RO σ o1 o) ∧ BlkL σ τ m H l
theorem BlkL.mem {σ : Nat → Option Nat} {τ : Nat → Nat} {m : Nat} {H : Tr AObj} : ∀ {l : List (Nat × AObj)}, BlkL σ τ m H l → ∀ k o, (k, o) ∈ l → k < m ∧ ∃ o1, H.get (τ k) = some o1 ∧ RO σ o1 o
  | (j, p) :: l, h, k, o, hm => by
    rcases List.mem_cons.1 hm with e | e
    · cases e; exact h.1
    · exact BlkL.mem h.2 k o e
theorem blocks_of {σ : Nat → Option Nat} {τ : Nat → Nat} {m d : Nat} {H : Tr AObj} {l : List (Nat × AObj)} (h : BlkL σ τ m H l) : Blocks σ τ m H (heap d l) := fun k o hk => by
  unfold heap at hk
  rw [tab_get] at hk
  split at hk
  · rw [Nat.zero_add, Nat.one_mul] at hk
    rcases lkp_get k none l with ⟨v, h1, h2⟩ | h2
    · rw [h2] at hk; cases hk; exact h.mem k _ h1
    · rw [h2] at hk; cases hk
  · cases hk

theorem rc_slots {P : Program} {g0 k0 nt : Nat} {rd : Option Nat} {s : Fs} (L : List Nat) {d d2 : Nat} {lv : List (Nat × Value)} {bs : List (Nat × AObj)} {W : List Nat} {df : List ADf} {m : Nat} (hd : Nat.ble (nt + 1) (2 ^ d) = true) (hk : Nat.ble k0 s.n = true) (hg : Nat.ble g0 k0 = true) (hrd : ∀ l, rd = some l → l < k0) (hn : L.Nodup) (hL : ∀ x ∈ L, k0 ≤ x ∧ x < JJ) (hm : m = k0 + L.length) (hJ : Nat.ble m JJ = true)
    (hW : ∀ k ∈ s.wr, k < k0 → k ∈ W) (hS : Slots (sgO k0 L) s.T lv) (hB : BlkL (sgO k0 L) (un k0 L) m s.H bs) (hD : RD (sgO k0 L) s.df df) :
    ∃ f, RcM P g0 k0 nt rd s ⟨slots d lv f, heap d2 bs, m, W, df⟩ := by
  subst hm
  refine ⟨fun t => (s.T.get t).map (renC k0 L), ?_⟩
  obtain ⟨h1, h2, h3⟩ := rc_mk (P := P) (nt := nt) L lv (heap d2 bs) W df (Nat.le_of_ble_eq_true hk) (Nat.le_of_ble_eq_true hg) hrd hn hL (Nat.le_of_ble_eq_true hJ) hW hS (blocks_of hB) hD
  refine ⟨h1, h2, fun E a w hf => ?_⟩
  obtain ⟨E', hf', hk'⟩ := h3 E a w hf
  refine ⟨E', ⟨⟨hf'.tr.1, fun t => ?_⟩, hf'.hr, hf'.lw, hf'.df, hf'.gl, hf'.rd, hf'.top⟩, hk'⟩
  show VR E' (((slots d lv fun t => (s.T.get t).map (renC k0 L)).get t).getD undef) _
  unfold slots
  rw [tab_get, Nat.zero_add, Nat.one_mul]
  by_cases ht : t + 1 < 2 ^ d
  · rw [if_pos ht]
    rcases lkp_get t ((s.T.get t).map (renC k0 L)) lv with ⟨v, m1, m2⟩ | m2
    · rw [m2]
      obtain ⟨u, hu, hr⟩ := hS.mem t v m1
      have hu' := un_sg (k0 := k0) (L := L) (fun x hx => (hL x hx).1) (Nat.le_of_ble_eq_true hJ)
      have hvr := hf.tr.2 t
      rw [hu] at hvr
      -- the environment is the same
      rcases over_get lv (s.T.map (renC k0 L)) t with ⟨v2, q1, q2⟩ | q2
      · -- both from the list; take the relation anew
        have := hf'.tr.2 t
        obtain ⟨u2, hu2, hr2⟩ := hS.mem t v2 q1
        rw [hu] at hu2
        cases hu2
        have hvv : RV (sgO k0 L) u v → RV (sgO k0 L) u v2 → v = v2 := fun a b => RV.det a b
        rw [hvv hr hr2]
        have e : (⟨over (s.T.map (renC k0 L)) lv, heap d2 bs, k0 + L.length, W, df⟩ : Fs).T.get t = some v2 := q2
        rw [e] at this
        exact this
      · have := hf'.tr.2 t
        have e : (⟨over (s.T.map (renC k0 L)) lv, heap d2 bs, k0 + L.length, W, df⟩ : Fs).T.get t = some (renC k0 L u) := by
          show (over (s.T.map (renC k0 L)) lv).get t = _
          rw [q2, Tr.get_map, hu]; rfl
        rw [e] at this
        rw [RV.det hr (renC_spec hvr)]
        exact this
    · rw [m2]
      have := hf'.tr.2 t
      rcases over_get lv (s.T.map (renC k0 L)) t with ⟨v2, q1, q2⟩ | q2
      · obtain ⟨u2, hu2, hr2⟩ := hS.mem t v2 q1
        have e : (⟨over (s.T.map (renC k0 L)) lv, heap d2 bs, k0 + L.length, W, df⟩ : Fs).T.get t = some v2 := q2
        rw [e] at this
        have hvr := hf.tr.2 t
        rw [hu2] at hvr
        rw [hu2]
        rw [RV.det hr2 (renC_spec hvr)] at this
        exact this
      · have e : (⟨over (s.T.map (renC k0 L)) lv, heap d2 bs, k0 + L.length, W, df⟩ : Fs).T.get t = (s.T.get t).map (renC k0 L) := by
          show (over (s.T.map (renC k0 L)) lv).get t = _
          rw [q2, Tr.get_map]
        rw [e] at this
        exact this
  · rw [if_neg ht]
    have hsz := hf'.tr.1
    have : nt + 1 ≤ 2 ^ d := Nat.le_of_ble_eq_true hd
    rw [Array.getD_eq_getD_getElem?, Array.getElem?_eq_none (by omega)]
    exact VR.undef

/-- A LOOP, FROM ROUND TO ROUND. -/
theorem loop_go {P : Program} {g0 k0 nt : Nat} {rd : Option Nat} {c : Code} {K : Ex → Fs → Prop} {s : Fs} {ι : Type} (S : ι → (Nat → Option Value) → Fs) (μ : ι → Nat) (inv : ι → Prop) (i0 : ι) (hi : inv i0) (h0 : ∃ f, RcM P g0 k0 nt rd s (S i0 f))
    (step : ∀ i f, inv i → CW P g0 k0 nt rd c (S i f) (fun x s1 => match x with | .normal => ∃ j, inv j ∧ μ j < μ i ∧ ∃ f', RcM P g0 k0 nt rd s1 (S j f') | x => K x s1)) : LW P g0 k0 nt rd c s K := by
  have main : ∀ m i f, μ i = m → inv i → LW P g0 k0 nt rd c (S i f) K := by
    intro m
    induction m using Nat.strongRecOn with
    | _ m ih =>
      intro i f hm hi
      refine LW.round ((step i f hi).mono fun x s1 h => ?_)
      cases x with
      | normal =>
        obtain ⟨j, h1, h2, f', h3⟩ := h
        exact LW.pre h3 (ih (μ j) (by omega) j f' rfl h1)
      | _ => exact h
  obtain ⟨f, h⟩ := h0
  exact LW.pre h (main _ i0 f rfl hi)

/-! ### ends told anew -/
def exPlain : Ex → Bool
  | .pan ch => ch.all fun x => plainV 8 x.1
  | .normal | .ret => true
  | _ => false
theorem CR.plain {E E2 : Env} {l : List (Value × Bool)} {l' : List PanicEntry} (h : CR E l l') : (l.all fun x => plainV 8 x.1) = true → CR E2 l l' := by
  induction h with
  | nil => intro _; exact .nil
  | cons v b p l l' hv hb hg t ih =>
    intro hp
    simp only [List.all_cons, Bool.and_eq_true] at hp
    refine .cons _ _ _ _ _ ?_ hb hg (ih hp.2)
    rw [plain_eq 8 hp.1 hv]; exact plain_refl 8 hp.1
theorem cw_post {P : Program} {g0 k0 nt : Nat} {rd : Option Nat} {c : Code} {s : Fs} {K : Ex → Fs → Prop} (h : CW P g0 k0 nt rd c s (fun x s1 => exPlain x = true ∧ ∃ s2, RcM P g0 k0 nt rd s1 s2 ∧ K x s2)) : CW P g0 k0 nt rd c s K := fun h1 h2 => by
  obtain ⟨x, s1, ⟨a1, a2, a3⟩, hx, s2, ⟨b1, b2, b3⟩, hk⟩ := h h1 h2
  refine ⟨x, s2, ⟨b1, a2.trans b2, fun E a w hf => wpIn_mono (a3 E a w hf) ?_⟩, hk⟩
  rintro e a' w' ⟨E', q1, q2, q3⟩
  obtain ⟨E2, r1, r2⟩ := b3 E' a' w' q1
  refine ⟨E2, r1, ?_, q3.trans r2 b2⟩
  cases x with
  | normal => cases e <;> first | exact q2 | exact False.elim q2
  | ret => cases e <;> first | exact q2 | exact False.elim q2
  | pan ch => cases e <;> first | exact False.elim q2 | exact CR.plain q2 hx
  | exit id => cases hx
  | goto l => cases hx
/-- A function's walk, its end told anew (of functions that defer). -/
theorem fn_sxR {P : Program} (hm : P.follows .mixedOrders = true) {g0 : Nat} (tb : Tb P g0) (sy : List Nat) {f : FuncId} {fn : Func} {c : Code} (hf : P.funcs[f]? = some fn) (hb : fn.body = some c) {args : List Value} {H0 : Tr AObj} {n0 : Nat} {R : Res → Prop}
    (h : frcTr (tmpsOf args 0 .e) fun T => sx tb sy n0 (args.length + (fn.ntmps - args.length)) none c ⟨T, H0, n0, [], []⟩ (fun x s1 => exPlain x = true ∧ ∃ s2, RcM P g0 n0 (args.length + (fn.ntmps - args.length)) none s1 s2 ∧ fnK tb fn R x s2)) : ∃ r, FnS P g0 f args H0 n0 r ∧ R r := by
  rw [frcTr_eq] at h
  exact fn_of_cw hm tb hf hb (cw_post (sx_ok tb sy n0 _ none hm _ _ _ h))

theorem slot_int {σ : Nat → Option Nat} {T : Tr Value} {t : Nat} {k : IntKind} {x y : Int} (h : T.get t = some (.int k x)) (e : x = y) : ∃ u, T.get t = some u ∧ RV σ u (.int k y) := ⟨_, h, by subst e; exact .int _ _⟩
theorem wrap_i64 {x : Int} (h1 : -9223372036854775808 ≤ x) (h2 : x < 9223372036854775808) : IntKind.i64.wrap x = x := by
  simp [IntKind.wrap, IntKind.bits, IntKind.signed]; omega
end Go.Proofs.YtgfjmkjhjfmbeaaGreat
