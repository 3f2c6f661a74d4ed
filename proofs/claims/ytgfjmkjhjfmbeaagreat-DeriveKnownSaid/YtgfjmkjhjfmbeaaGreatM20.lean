/- DERIVED. The machine M, last part: what M computes, the model computes: 'ev_calls'. -/
import Derived.Test.YtgfjmkjhjfmbeaaGreatM19
import Derived.RunIn
import Derived.Scope
namespace Go.Proofs.YtgfjmkjhjfmbeaaGreat
open Go.RowKit

theorem stepR_scope' {P : Program} {b : Frame} {a : Act} {k : List Item} {cs : List Frame} {w : World} {c : Code} : Go.step P (lone (b.atR a (.code (.scope c) :: k)) cs w) = .next (lone (b.atR a (.code c :: .inScope c :: k)) cs w) :=
  step_lone_go (by simp [stepG, stepG.exec, Frame.atR])
theorem stepR_inScope' {P : Program} {b : Frame} {a : Act} {k : List Item} {cs : List Frame} {w : World} {c : Code} : Go.step P (lone (b.atR a (.inScope c :: k)) cs w) = .next (lone (b.atR a k) cs w) :=
  step_lone_go (by simp [stepG, stepG.exec, Frame.atR])

theorem wpIn_scope_plain {F : Fence} {n : Nat} {P : Program} {Q : Exit → Act → World → Prop} {a : Act} {w : World} {c : Code} (h : c.wpIn F n P (Exit.noGoto Q) a w) : (Code.scope c).wpIn F n P Q a w := by
  intro b k cs hro hb hr
  have h0 : (lone (b.atR a (.code (.scope c) :: k)) cs w).fenced P F := fenced_calm hb hr rfl
  obtain ⟨e, a₁, w₁, hq, harr⟩ := h b (.inScope c :: k) cs hro hb hr
  cases e with
  | normal => exact ⟨.normal, a₁, w₁, hq, .head h0 stepR_scope' (StepsIn.trans harr (.one (fenced_calm hb hr rfl) stepR_inScope'))⟩
  | exit id =>
    have hx : exitTo id (.inScope c :: k) = exitTo id k := by simp [exitTo]
    exact ⟨.exit id, a₁, w₁, hq, fun k' hk => .head h0 stepR_scope' (harr.1 k' (by rw [hx]; exact hk)),
      fun hr' hk => let ⟨k₁, h1, h2⟩ := harr.2 hr' (by rw [hx]; exact hk); ⟨k₁, h1, .head h0 stepR_scope' h2⟩⟩
  | goto l => exact hq.elim
  | ret => exact ⟨_, a₁, w₁, hq, .of_steps (.one h0 stepR_scope') harr⟩
  | panic ch => exact ⟨_, a₁, w₁, hq, .of_steps (.one h0 stepR_scope') harr⟩
  | outgrown => exact ⟨_, a₁, w₁, hq, .of_steps (.one h0 stepR_scope') harr⟩

section
variable {P : Program} {g0 : Nat} {rec : Task → Fs → Res}

theorem evDraw_ok (hm : P.follows .mixedOrders = true) (hrec : ∀ t s, TOK P g0 t s (rec t s)) {rd : Option Nat} {nt id : Nat} {ops : Array Oper} {s0 s' : Fs} {x : Ex} {l : List Nat} (hreg : regOk ops (preAll ops.toList []) = true)
    (hr : evDraw P g0 rec nt rd ops (preAll ops.toList []) l 0 [] s0 = .code x s') : CodeOK P g0 nt rd (.region id ops true) s0 x s' := by
  have h0 : CI P g0 rd nt ops s0 [] 0 s0 := ⟨trivial, fun t => rfl, fun k _ => rfl, Nat.le_refl _, (fun r hr => by cases hr), (fun k => ⟨fun h => by omega, fun ⟨r, hr, _⟩ => by cases hr⟩), (fun j => ⟨fun h => by simp at h, fun ⟨r, hr, _⟩ => by cases hr⟩), fun h => h, ⟨(fun r hr => by cases hr), fun k hk => hk⟩, rfl⟩
  obtain ⟨rfl, L, hci, hlen⟩ := evDraw_run (s0 := s0) hrec l 0 [] s0 x s' hr h0
  refine ⟨⟨⟨hci.n, fun k hk hkw => ?_, hci.low⟩, hci.wr.2⟩, fun E0 w0 E a w hf hfree => ?_⟩
  · rw [hci.h k (Nat.lt_of_lt_of_le hk hci.n)]
    refine GD_out (fun r hr hin => ?_)
    rcases inK_iff.1 hin with h | h
    · exact hkw (hci.wr.1 r hr k h)
    · have := (hci.tile k).2 ⟨r, hr, h⟩; omega
  · have hall : ∀ i, i < ops.size → ∃ r ∈ L, r.i = i := fun i hi => (hci.bits i).1 (by rw [Nat.testBit_two_pow_sub_one]; simpa using hi)
    have hlg : ∀ j, (Array.replicate ops.size false).getD j false = false := fun j => by
      rw [Array.getD_eq_getD_getElem?, Array.getElem?_replicate]; split <;> rfl
    have hD0 : ∀ r ∈ L, ¬ (Array.replicate ops.size false).getD r.i false = true := fun r _ => by rw [hlg]; simp
    refine wpIn_region_any hm ?_
    refine draw_walk hci.good hall hreg hf.lw (Es := E) (ws := { w with drawn := w.drawn + 1 }) (nE := s'.n) hfree hci.hi hf.gl hf.rd (a0 := a) (allW := s'.wr) hci.wr.1 ?_ ops.size (Array.replicate ops.size false) a { w with drawn := w.drawn + 1 } (by simp) ?_ ?_ ?_
    · intro E1 a1 w1 hx hd hst hsz hdf hT hH
      refine ⟨E1, hx, fun k => ?_, ⟨⟨hsz, fun t => by rw [hci.t t]; exact hT t⟩, hH.sub (fun k ob h => ?_), hci.low hf.lw, ?_, ?_, fun g hg => ⟨hx.n g (hf.gl g hg).1, by rw [hx.ρ g (hf.gl g hg).1]; exact (hf.gl g hg).2⟩, fun l hl => hx.n l (hf.rd l hl)⟩, trivial⟩
      · rw [hd k, hci.tile k]
      · have hlt := (hci.low hf.lw).lt (k := k) (by rw [h]; simp)
        rw [← hci.h k hlt]; exact h
      · have h2 : Stp E E1 s'.wr w w1 := ⟨hst.ext, hst.os, hst.tape, hst.output, hst.size, hst.block, hst.fresh⟩
        exact hf.stp.trans' h2 (fun y hy => hy.elim (fun h => h) (fun h => hci.wr.2 y h))
      · rw [hdf, hci.df]; exact hf.df.ext hx
    · unfold cnt
      exact Nat.le_trans List.countP_le_length (Nat.le_of_eq hlen)
    · intro j o _ h; rw [hlg] at h; cases h
    · refine ⟨E, .refl E, fun k => ⟨.inl, fun h => h.elim (fun h => h) (fun ⟨r, _, h, _⟩ => by rw [hlg] at h; cases h)⟩, (Stp.refl E { w with drawn := w.drawn + 1 }).sub (fun x hx => by cases hx), hf.tr.1, rfl, fun t => ?_, ?_⟩
      · have := TD_tail (ops := ops) (D := fun i => (Array.replicate ops.size false).getD i false = true) (f0 := fun t => (s0.T.get t).getD undef) (t := t) (A := L) (B := []) hD0
        rw [List.append_nil] at this
        rw [this]; exact hf.tr.2 t
      · have : GD (fun i => (Array.replicate ops.size false).getD i false = true) s0.H.get L = s0.H.get := funext fun k => by
          have := GD_tail (D := fun i => (Array.replicate ops.size false).getD i false = true) (G0 := s0.H.get) (k := k) (A := L) (B := []) hD0
          rw [List.append_nil] at this; exact this
        rw [this]
        exact ⟨hf.hr.lt, hf.hr.dom, hf.hr.obj, hf.hr.inj⟩

/-- A part and what follows. -/
theorem CodeOK.part (_hrec : ∀ t s, TOK P g0 t s (rec t s)) {nt : Nat} {rd : Option Nat} {c d : Code} {s s1 s' : Fs} {x : Ex} (h1 : CodeOK P g0 nt rd c s x s1) (hs : s1 = s')
    (hw : ∀ (E : Env) (Q : Exit → Act → World → Prop) (a : Act) (w : World), c.wpIn (rdF E rd) 0 P Q a w → (∀ e a w, Q e a w → Q e a w) → d.wpIn (rdF E rd) 0 P Q a w) : CodeOK P g0 nt rd d s x s' := by
  subst hs
  exact ⟨h1.1, fun E0 w0 E a w hf hfree => hw E _ a w (h1.2 E0 w0 E a w hf hfree) (fun _ _ _ h => h)⟩

theorem CodeOK.same {nt : Nat} {rd : Option Nat} {c : Code} {s : Fs} {x : Ex} (e : Exit) (he : ∀ E, exR E x e) (hw : ∀ (E : Env) (Q : Exit → Act → World → Prop) (a : Act) (w : World), Q e a w → c.wpIn (rdF E rd) 0 P Q a w) : CodeOK P g0 nt rd c s x s :=
  ⟨⟨Grw.refl _ _ _, fun _ hk => hk⟩, fun _ _ E a w hf _ => hw E _ a w ⟨E, .refl E, .refl E _, hf, he E⟩⟩

theorem evCode_ok (hm : P.follows .mixedOrders = true) (hrec : ∀ t s, TOK P g0 t s (rec t s)) {nt : Nat} {rd : Option Nat} {c : Code} {s s' : Fs} {x : Ex} (hr : evCode P g0 rec nt rd c s = .code x s') : CodeOK P g0 nt rd c s x s' := by
  cases c with
  | skip =>
    simp only [evCode, Res.code.injEq] at hr; obtain ⟨rfl, rfl⟩ := hr
    exact .same .normal (fun _ => trivial) (fun E Q a w h => wpIn_skip h)
  | label l =>
    simp only [evCode, Res.code.injEq] at hr; obtain ⟨rfl, rfl⟩ := hr
    exact .same .normal (fun _ => trivial) (fun E Q a w h => wpIn_label h)
  | exit id =>
    simp only [evCode, Res.code.injEq] at hr; obtain ⟨rfl, rfl⟩ := hr
    exact .same (.exit id) (fun _ => rfl) (fun E Q a w h => wpIn_exit h)
  | ret =>
    simp only [evCode, Res.code.injEq] at hr; obtain ⟨rfl, rfl⟩ := hr
    exact .same .ret (fun _ => trivial) (fun E Q a w h => wpIn_ret h)
  | goto l => simp [evCode] at hr
  | refuse m => simp [evCode] at hr
  | rangeFunc g ps asg b => exact evRange_ok hrec hr
  | region id ops draw =>
    cases draw with
    | false => simp only [evCode, cond_false] at hr; exact evRegion_ok hrec hr
    | true =>
      simp only [evCode, cond_true] at hr
      cases hreg : regOk ops (preAll ops.toList []) with
      | false => simp [hreg] at hr
      | true => simp only [hreg, cond_true] at hr; exact evDraw_ok hm hrec hreg hr
  | loop b =>
    simp only [evCode] at hr
    have h := hrec (.loop nt rd b) s
    rw [hr] at h
    exact ⟨h.1, fun E0 w0 E a w hf hfree => wpIn_inLoop (h.2 E0 w0 E a w hf hfree)⟩
  | seq a b =>
    simp only [evCode] at hr
    have h1 := hrec (.code nt rd a) s
    generalize rec (.code nt rd a) s = R at hr h1
    cases R with
    | bad m tr => simp at hr
    | ret _ _ _ _ => simp at hr
    | pan _ _ _ _ => simp at hr
    | code x1 s1 =>
      obtain ⟨⟨g1, g1'⟩, w1⟩ := h1
      by_cases hx1 : x1 = .normal
      · subst hx1
        simp only [] at hr
        have h2 := hrec (.code nt rd b) s1
        rw [hr] at h2
        obtain ⟨⟨g2, g2'⟩, w2⟩ := h2
        refine ⟨⟨g1.trans g2 g2', fun k hk => g2' k (g1' k hk)⟩, fun E0 w0 E ac w hf hfree => wpIn_seq (wpIn_mono (w1 E0 w0 E ac w hf (hfree.left g2.le)) ?_)⟩
        rintro e a1 wd1 ⟨E1, hx, ht, hf1, he⟩
        cases exR_normal he
        have := w2 E0 w0 E1 a1 wd1 hf1 (hfree.right ht g1.le)
        rw [hf.next hx] at this
        exact wpIn_mono this (fun e a' w' hq => CPost.trans hx ht g1.le g2.le hq)
      · have hr' : Res.code x1 s1 = .code x s' := by cases x1 <;> first | exact absurd rfl hx1 | exact hr
        simp only [Res.code.injEq] at hr'
        obtain ⟨rfl, rfl⟩ := hr'
        refine ⟨⟨g1, g1'⟩, fun E0 w0 E ac w hf hfree => wpIn_seq (wpIn_mono (w1 E0 w0 E ac w hf hfree) ?_)⟩
        rintro e a1 wd1 hp
        obtain ⟨E1, hx, ht, hf1, he⟩ := id hp
        exact then_of hx1 he hp
  | cond v a b =>
    simp only [evCode] at hr
    cases hv : aev s.T v with
    | bool t =>
      simp only [hv] at hr
      cases hok : okX g0 v with
      | false => simp [hok] at hr
      | true =>
        simp only [hok, cond_true] at hr
        have h1 := hrec (.code nt rd (bif t then a else b)) s
        rw [hr] at h1
        refine ⟨h1.1, fun E0 w0 E ac w hf hfree => ?_⟩
        have hev : ac.eval v = .bool t := ((aev_rel hf.tr hf.gl hok).isBool t).2 hv
        have := h1.2 E0 w0 E ac w hf hfree
        cases t
        · exact wpIn_cond_false hev this
        · exact wpIn_cond_true hev this
    | _ => simp [hv] at hr
  | block id b =>
    simp only [evCode] at hr
    have h1 := hrec (.code nt rd b) s
    generalize rec (.code nt rd b) s = R at hr h1
    cases R with
    | bad m tr => simp at hr
    | ret _ _ _ _ => simp at hr
    | pan _ _ _ _ => simp at hr
    | code x1 s1 =>
      obtain ⟨⟨g1, g1'⟩, w1⟩ := h1
      have main : ∀ x : Ex, (∀ (E : Env) (e : Exit), exR E x1 e → ∀ (Q : Exit → Act → World → Prop) (a : Act) (w : World), (∀ e', exR E x e' → Q e' a w) → Exit.inBlock id Q e a w) → CodeOK P g0 nt rd (.block id b) s x s1 := by
        intro x hx
        refine ⟨⟨g1, g1'⟩, fun E0 w0 E ac w hf hfree => wpIn_block (wpIn_mono (w1 E0 w0 E ac w hf hfree) ?_)⟩
        rintro e a1 wd1 ⟨E1, hx1, ht, hf1, he⟩
        exact hx E1 e he _ a1 wd1 (fun e' he' => ⟨E1, hx1, ht, hf1, he'⟩)
      cases x1 with
      | exit id' =>
        simp only [] at hr
        cases hid : id'.beq id with
        | true =>
          simp only [hid, cond_true, Res.code.injEq] at hr
          obtain ⟨rfl, rfl⟩ := hr
          refine main .normal (fun E e he Q a w h => ?_)
          cases e <;> first | exact False.elim he | skip
          have : id' = id := Nat.eq_of_beq_eq_true hid
          rename_i j
          have hj : j = id' := he
          simp only [Exit.inBlock, hj, this, if_true]
          exact h .normal trivial
        | false =>
          simp only [hid, cond_false, Res.code.injEq] at hr
          obtain ⟨rfl, rfl⟩ := hr
          refine main _ (fun E e he Q a w h => ?_)
          cases e <;> first | exact False.elim he | skip
          have hne : id' ≠ id := fun e => by rw [e] at hid; simp at hid
          rename_i j
          have hj : j = id' := he
          simp only [Exit.inBlock, hj, hne, if_false]
          exact h _ rfl
      | normal =>
        simp only [Res.code.injEq] at hr; obtain ⟨rfl, rfl⟩ := hr
        refine main _ (fun E e he Q a w h => ?_)
        cases e <;> first | exact False.elim he | exact h _ he
      | ret =>
        simp only [Res.code.injEq] at hr; obtain ⟨rfl, rfl⟩ := hr
        refine main _ (fun E e he Q a w h => ?_)
        cases e <;> first | exact False.elim he | exact h _ he
      | goto l =>
        simp only [Res.code.injEq] at hr; obtain ⟨rfl, rfl⟩ := hr
        refine main _ (fun E e he Q a w h => ?_)
        cases e <;> first | exact False.elim he | exact h _ he
      | pan ch =>
        simp only [Res.code.injEq] at hr; obtain ⟨rfl, rfl⟩ := hr
        refine main _ (fun E e he Q a w h => ?_)
        cases e <;> first | exact False.elim he | exact h _ he
  | scope b =>
    simp only [evCode] at hr
    have h1 := hrec (.code nt rd b) s
    generalize rec (.code nt rd b) s = R at hr h1
    cases R with
    | bad m tr => simp at hr
    | ret _ _ _ _ => simp at hr
    | pan _ _ _ _ => simp at hr
    | code x1 s1 =>
      obtain ⟨⟨g1, g1'⟩, w1⟩ := h1
      have hng : ∀ l, x1 ≠ .goto l := fun l e => by subst e; simp at hr
      have hr' : Res.code x1 s1 = .code x s' := by cases x1 <;> first | exact absurd rfl (hng _) | exact hr
      simp only [Res.code.injEq] at hr'
      obtain ⟨rfl, rfl⟩ := hr'
      refine ⟨⟨g1, g1'⟩, fun E0 w0 E ac w hf hfree => ?_⟩
      have := w1 E0 w0 E ac w hf hfree
      exact wpIn_scope_plain (wpIn_mono this (fun e a' w' hp => by
        obtain ⟨E1, q1, q2, q3, q4⟩ := id hp
        cases e with
        | goto l => cases x1 <;> first | exact absurd rfl (hng _) | exact False.elim q4
        | _ => exact hp))

theorem step_ok (hm : P.follows .mixedOrders = true) (hrec : ∀ t s, TOK P g0 t s (rec t s)) : ∀ t s, TOK P g0 t s (step P g0 rec t s) := by
  intro t s
  match t with
  | .code nt rd c =>
    cases hr : step P g0 rec (.code nt rd c) s with
    | code x s' => exact evCode_ok hm hrec hr
    | _ => trivial
  | .loop nt rd c =>
    cases hr : step P g0 rec (.loop nt rd c) s with
    | code x s' => exact evLoop_ok hrec hr
    | _ => trivial
  | .call f args =>
    cases hr : step P g0 rec (.call f args) s with
    | ret v H n wr => exact evFn_ok hrec hr (by simp)
    | pan ch H n wr => exact evFn_ok hrec hr (by simp)
    | _ => trivial
  | .dcall f args u =>
    cases hr : step P g0 rec (.dcall f args u) s with
    | ret v H n wr => exact evDcall_ok hrec hr (by simp)
    | pan ch H n wr => exact evDcall_ok hrec hr (by simp)
    | _ => trivial
end

theorem ev_ok {P : Program} (hm : P.follows .mixedOrders = true) (g0 : Nat) : ∀ (f : Nat) (t : Task) (s : Fs), TOK P g0 t s (ev P g0 f t s)
  | 0, t, s => by rw [ev_zero]; cases t <;> trivial
  | f + 1, t, s => by rw [ev_succ]; exact step_ok hm (ev_ok hm g0 f) t s

/-- The start: nothing is known. -/
def fs0 : Fs := ⟨.e, .e, 0, [], []⟩
def env0 : Env := ⟨fun _ => False, fun _ => 0, fun _ => 0, fun _ => 0⟩

/-- WHAT M COMPUTES OF A CLOSED CALL, THE MODEL COMPUTES, ON EVERY TAPE, IN WHATEVER ORDER: true, and nothing that was there has turned. -/
theorem ev_true {P : Program} (hm : P.follows .mixedOrders = true) (fuel : Nat) (f : FuncId) (h : retTrue (ev P 0 fuel (.call f []) fs0) = true) (w : World) :
    Calls P f #[] w fun e w' => e = .returned (.bool true) ∧ Below w.heap.size w w' := by
  have ht := ev_ok hm 0 fuel (.call f []) fs0
  cases hr : ev P 0 fuel (.call f []) fs0 with
  | ret v H n wr =>
    rw [hr] at h ht
    have hv : v = .bool true ∧ wr = [] := by
      unfold retTrue at h
      split at h
      · rename_i e; cases e; exact ⟨rfl, rfl⟩
      · cases h
    obtain ⟨rfl, rfl⟩ := hv
    have hc := ht.2 env0 w #[] (fun g hg => by omega) .nil ⟨fun _ h => h.elim, fun _ _ => rfl, (fun _ _ h => by cases h), (fun _ _ h => absurd rfl h)⟩ (fun _ _ => rfl) (fun _ _ _ h => h)
    refine (callsIn_wide.1 hc).mono ?_
    rintro e w' ⟨E', v', rfl, hv, hx, _, _, hs⟩
    cases hv
    exact ⟨rfl, hs.os, hs.tape, hs.output, hs.size, fun b hb => hs.block b hb (fun _ h => by cases h)⟩
  | bad m tr => rw [hr] at h; simp [retTrue] at h
  | code x s => rw [hr] at h; simp [retTrue] at h
  | pan ch H n wr => rw [hr] at h; simp [retTrue] at h
end Go.Proofs.YtgfjmkjhjfmbeaaGreat
