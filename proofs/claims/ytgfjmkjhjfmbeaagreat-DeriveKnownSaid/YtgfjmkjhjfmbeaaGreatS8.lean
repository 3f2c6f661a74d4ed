/- DERIVED. M with symbols, eighth part: contracts that ask for something. -/
import Derived.Test.YtgfjmkjhjfmbeaaGreatS7
namespace Go.Proofs.YtgfjmkjhjfmbeaaGreat
open Go.RowKit

/-- A contract: where the arguments are such (told by an x), the result is such. -/
structure CtR (P : Program) (g0 : Nat) where
  f : FuncId
  X : Type
  pre : X → List Value → Tr AObj → Nat → Prop
  out : X → Tr AObj → Nat → Res
  ok : ∀ x args H n, pre x args H n → TOK P g0 (.call f args) ⟨.e, H, n, [], []⟩ (out x H n)
  uniq : ∀ x y args H n, pre x args H n → pre y args H n → out x H n = out y H n

open Classical in
noncomputable def CtR.ct {P : Program} {g0 : Nat} (c : CtR P g0) : Ct P g0 where
  f := c.f
  res args H n := if h : ∃ x, c.pre x args H n then c.out h.choose H n else .bad "" []
  ok args H n := by
    by_cases h : ∃ x, c.pre x args H n
    · rw [dif_pos h]; exact c.ok _ _ _ _ h.choose_spec
    · rw [dif_neg h]; trivial
  ck args H n K := ∃ x, c.pre x args H n ∧ K (c.out x H n)
  imp args H n K := fun ⟨x, h1, h2⟩ => by
    have h : ∃ x, c.pre x args H n := ⟨x, h1⟩
    rw [dif_pos h, c.uniq _ _ _ _ _ h.choose_spec h1]; exact h2

/-- A contract under a condition that computes. -/
def Ct.guard {P : Program} {g0 : Nat} (f : FuncId) (g : List Value → Option Bool) (out : List Value → Tr AObj → Nat → Res) (ok : ∀ args H n, g args = some true → TOK P g0 (.call f args) ⟨.e, H, n, [], []⟩ (out args H n)) : Ct P g0 where
  f := f
  res args H n := match g args with | some true => out args H n | _ => .bad "guard" []
  ok args H n := by
    split
    · exact ok args H n ‹_›
    · trivial
  ck args H n K := match g args with | some b => b = true ∧ K (out args H n) | none => False
  imp args H n K h := by
    cases hg : g args with
    | none => rw [hg] at h; exact h.elim
    | some b =>
      rw [hg] at h
      obtain ⟨rfl, h⟩ := h
      exact h

theorem plain_args {E : Env} {args : List Value} {args' : Array Value} (ha : plainL args = true) (h : VL E args args'.toList) : args' = args.toArray := by
  have h1 : VR E (.agg args.toArray) (.agg args') := .agg _ _ h
  have h2 := plain_eq 9 (by simpa [plainV, plainL] using ha) h1
  simpa using h2

/-- Of a call that is known by a walk, of plain data. -/
theorem callOK_calls {P : Program} {g0 : Nat} {f : FuncId} {args : List Value} {v : Value} (h : ∀ w, Calls P f args.toArray w (fun e w' => e = .returned v ∧ Below w.heap.size w w')) (ha : plainL args = true) (hv : plainV 8 v = true) (H : Tr AObj) (n : Nat) : CallOK P g0 f args H n (.ret v H n []) := by
  refine ⟨Grw.refl _ _ _, fun E w args' hgl hva hE hl hf => ?_⟩
  rw [plain_args ha hva]
  refine (callsIn_wide.2 (h w)).mono ?_
  rintro e w' ⟨rfl, hb⟩
  obtain ⟨b1, b2, b3, b4, b5⟩ := hb
  refine ⟨E, v, rfl, plain_refl 8 hv, .refl E, .refl E _, ⟨fun id hd => Nat.lt_of_lt_of_le (hE.lt id hd) b4, hE.dom, fun id o ho => ?_, hE.inj⟩, .refl E, b1, b2, b3, b4, fun b hb _ => b5 b hb, fun id h1 h2 => absurd h2 h1⟩
  have hd := hE.live (id := id) (by rw [ho]; simp)
  exact (hE.obj id o ho).mono (.refl E) hd (b5 _ (hE.lt id hd))

/-- A contract of plain data: of these arguments, such a result. -/
noncomputable def CtR.plain {P : Program} {g0 : Nat} (f : FuncId) (X : Type) (args : X → List Value) (pre : X → Prop) (out : X → Value) (inj : ∀ x y, args x = args y → x = y) (ok : ∀ x, pre x → ∀ H n, CallOK P g0 f (args x) H n (.ret (out x) H n [])) : Ct P g0 :=
  CtR.ct { f, X, pre := fun x l _ _ => l = args x ∧ pre x, out := fun x H n => .ret (out x) H n [], ok := fun x l H n ⟨h1, h2⟩ => by subst h1; exact ok x h2 H n, uniq := fun x y l H n ⟨h1, _⟩ ⟨h2, _⟩ => by rw [inj x y (h1.symm.trans h2)] }

/-- A block that a call laid. -/
theorem hr_fresh {P : Program} {E : Env} {G : Gh} {w w' : World} (h : HR P E G w) {m : Nat} (hm : ¬ E.dom m) {g : Nat} {cur : Array Value} {e : TypeId} {sz : Nat} {xs : List Value} (hb : Below w.heap.size w w') (hg : w.heap.size ≤ g) (hc : w'.heap[g]? = some (.cells cur e (0, 0))) (hi : (P.info? e).map (·.size) = some sz)
    (hx : cur.toList.take xs.length = xs) (hp : plainL xs = true) (hl : xs.length ≤ cur.size) : HR P (E.push m g cur.size sz) (gset G m (some (.cells xs e))) w' ∧ Stp E (E.push m g cur.size sz) [] w w' := by
  have hx' := Env.push_ext hm g cur.size sz
  obtain ⟨b1, b2, b3, b4, b5⟩ := hb
  have hgl : g < w'.heap.size := (Array.getElem?_eq_some_iff.1 hc).1
  refine ⟨⟨fun id hid => ?_, fun id hid => ?_, fun id o' ho' => ?_, fun i j hi hj e => ?_⟩, ⟨hx', b1, b2, b3, b4, fun b hb _ => b5 b hb, fun id h1 h2 => .inl ?_⟩⟩
  · rcases hid with h1 | h1
    · subst h1; simp; exact hgl
    · rw [hx'.ρ id h1]; exact Nat.lt_of_lt_of_le (h.lt id h1) b4
  · show (if _ then _ else _) = none
    rw [if_neg (fun e => hid (.inl e))]; exact h.dom id (fun e => hid (.inr e))
  · have ho' : (if id = m then some (AObj.cells xs e) else G id) = some o' := ho'
    by_cases he : id = m
    · rw [if_pos he] at ho'; cases ho'; subst he
      refine ⟨cur, (0, 0), by rw [Env.push_ρ]; exact hc, .inl rfl, by rw [Env.push_tot], by rw [Env.push_sz]; exact hi, hl, ?_⟩
      rw [hx]; exact plainL_refl hp
    · rw [if_neg he] at ho'
      have hl := h.live (id := id) (by rw [ho']; simp)
      exact (h.obj id o' ho').mono hx' hl (b5 _ (h.lt id hl))
  · have hi : (if i = m then some (AObj.cells xs _) else G i) ≠ none := hi
    have hj : (if j = m then some (AObj.cells xs _) else G j) ≠ none := hj
    by_cases hie : i = m <;> by_cases hje : j = m
    · rw [hie, hje]
    · rw [if_neg hje] at hj
      have hl := h.live hj
      rw [hie, Env.push_ρ, hx'.ρ j hl] at e
      have := h.lt j hl; omega
    · rw [if_neg hie] at hi
      have hl := h.live hi
      rw [hje, Env.push_ρ, hx'.ρ i hl] at e
      have := h.lt i hl; omega
    · rw [if_neg hie] at hi
      rw [if_neg hje] at hj
      have h1 := h.live hi
      have h2 := h.live hj
      rw [hx'.ρ i h1, hx'.ρ j h2] at e
      exact h.inj i j hi hj e
  · rcases h2 with h2 | h2
    · subst h2; simp; exact hg
    · exact absurd h2 h1

/-- What a call tells that gives a new list (nil, if it is empty) and a number. -/
def listOut (e : TypeId) (sz : Nat) (xs : List Value) (len : Nat) (mk : Value → Value) (H : Tr AObj) (n : Nat) : Res :=
  bif len.beq 0 then .ret (mk (.slice none 0 0)) H n [] else .ret (mk (.slice (some ⟨n, 0, none⟩) len U)) (H.set n (some (.cells xs e))) (n + 1) []

theorem callOK_list {P : Program} {g0 : Nat} {f : FuncId} {args : List Value} {e : TypeId} {sz : Nat} {xs : List Value} {len : Nat} {mk : Value → Value} (ha : plainL args = true) (hx : plainL xs = true) (hi : (P.info? e).map (·.size) = some sz) (hmk : ∀ E v v', VR E v v' → VR E (mk v) (mk v'))
    (h : ∀ w, Calls P f args.toArray w (fun en w' => ∃ v, en = .returned (mk v) ∧ Below w.heap.size w w' ∧ w'.ownsRow w.heap.size e sz v len xs ∧ (len = 0 → v = .slice none 0 0))) (H : Tr AObj) (n : Nat) : TOK P g0 (.call f args) ⟨.e, H, n, [], []⟩ (listOut e sz xs len mk H n) := by
  unfold listOut
  cases hz : len.beq 0 with
  | true =>
    have hz := Nat.eq_of_beq_eq_true hz
    simp only [cond_true]
    refine ⟨Grw.refl _ _ _, fun E w args' hgl hva hE hl hf => ?_⟩
    rw [plain_args ha hva]
    refine (callsIn_wide.2 (h w)).mono ?_
    rintro en w' ⟨v, rfl, hb, _, hv⟩
    have hv := hv hz
    subst hv
    obtain ⟨b1, b2, b3, b4, b5⟩ := hb
    refine ⟨E, _, rfl, hmk _ _ _ (.snil 0 0), .refl E, .refl E _, ⟨fun id hd => Nat.lt_of_lt_of_le (hE.lt id hd) b4, hE.dom, fun id o ho => ?_, hE.inj⟩, .refl E, b1, b2, b3, b4, fun b hb _ => b5 b hb, fun id h1 h2 => absurd h2 h1⟩
    have hd := hE.live (id := id) (by rw [ho]; simp)
    exact (hE.obj id o ho).mono (.refl E) hd (b5 _ (hE.lt id hd))
  | false =>
    have hz : len ≠ 0 := fun e => by subst e; simp at hz
    simp only [cond_false]
    refine ⟨⟨Nat.le_succ _, fun k hk _ => Tr.get_set_ne _ _ (by have hk : k < n := hk; omega), fun h0 => h0.new _⟩, fun E w args' hgl hva hE hl hf => ?_⟩
    rw [plain_args ha hva]
    refine (callsIn_wide.2 (h w)).mono ?_
    rintro en w' ⟨v, rfl, hb, ⟨hxl, hown⟩, _⟩
    rcases hown with ⟨_, h0⟩ | ⟨g, cap, cur, rfl, hg, hc, h1, h2, h3, h4⟩
    · exact absurd h0 hz
    · have hnd : ¬ E.dom n := hf n (Nat.le_refl _) (by show n < n + 1; omega)
      have hle : xs.length ≤ cur.size := by
        rw [h3, hxl]; exact Nat.mul_le_mul_right _ h1
      obtain ⟨k1, k2⟩ := hr_fresh hE hnd hb hg hc hi (xs := xs) (by rw [hxl]; exact h4) hx hle
      refine ⟨_, _, rfl, hmk _ _ _ ?_, k2.ext, dom1, by rw [get_gset]; exact k1, k2⟩
      have := VR.su (E := E.push n g cur.size sz) n 0 len cap (E.push_dom n g cur.size sz) h1 h2 (by rw [Env.push_sz, Env.push_tot, h3]; omega)
      rwa [Env.push_ρ] at this

theorem callOK_purepan {P : Program} {f : FuncId} {args : List Value} {v : Value} {H' : Tr AObj} {n' : Nat} {wr : List Nat} (hF : FnS P 0 f args .e 0 (.pan [(v, false)] H' n' wr)) (ha : plainL args = true) (hv : plainV 8 v = true) (H : Tr AObj) (n : Nat) : CallOK P 0 f args H n (.pan [(v, false)] H n []) := by
  refine callOK_of_fns (A := []) (B := []) rfl hF List.nodup_nil (Nat.zero_le _) (plain_rl ha) (fun k o h => by cases h) List.nodup_nil (fun x hx => by cases hx) (fun x hx => by cases hx) (.pan _ _ _ _ _ _ _ _ (.cons _ _ _ _ _ (plain_rv 8 hv) .nil)) rfl (Grw.refl _ _ _) (fun k _ hk => by simp at hk) (fun j o h => .inl ⟨h, fun k hk => by simp at hk⟩)

theorem tau_one (b n : Nat) : tau [] [b] n b = some n := by
  unfold tau
  rw [show Nat.blt b ([] : List Nat).length = false from blt_false (Nat.zero_le _)]
  simp [posN]

/-- Of a function of plain data that gives one new list. -/
theorem callOK_fresh1 {P : Program} {f : FuncId} {args : List Value} {v0 : Value} {H' : Tr AObj} {n' : Nat} {wr : List Nat} {b : Nat} {xs : List Value} {e : TypeId} (v : Nat → Value) (hF : FnS P 0 f args .e 0 (.ret v0 H' n' wr)) (ha : plainL args = true) (hb : H'.get b = some (.cells xs e)) (hbJ : b < JJ) (hx : plainL xs = true)
    (hv : ∀ n, RV (tau [] [b] n) v0 (v n)) (H : Tr AObj) (n : Nat) : CallOK P 0 f args H n (.ret (v n) (H.set n (some (.cells xs e))) (n + 1) []) := by
  refine callOK_of_fns (A := []) (B := [b]) rfl hF List.nodup_nil (Nat.zero_le _) (plain_rl ha) (fun k o h => by cases h) (by simp) (fun x hx => by simp at hx; subst hx; exact ⟨Nat.zero_le _, hbJ⟩) (fun x hx => by simp at hx; subst hx; show H'.get x ≠ none; rw [hb]; simp) (.ret _ _ _ _ _ _ _ _ (hv n)) rfl
    ⟨Nat.le_succ _, fun k hk _ => Tr.get_set_ne _ _ (by omega), fun h0 => h0.new _⟩ (fun k _ hk => by simp at hk) (fun j o h => ?_)
  have h : (H.set n (some (.cells xs e))).get j = some o := h
  by_cases hj : j = n
  · subst hj
    rw [Tr.get_set_self] at h
    cases h
    exact .inr ⟨b, _, tau_one b j, hb, .same hx, fun h => by simp at h⟩
  · rw [Tr.get_set_ne _ _ hj] at h
    exact .inl ⟨h, fun k hk => by simp at hk⟩
end Go.Proofs.YtgfjmkjhjfmbeaaGreat
