/- DERIVED. The machine M, twelfth part: rounds, calls, operations, plain regions. -/
import Derived.Test.YtgfjmkjhjfmbeaaGreatM11
namespace Go.Proofs.YtgfjmkjhjfmbeaaGreat
open Go.RowKit

theorem get_gset (H : Tr AObj) (k : Nat) (x : Option AObj) : (H.set k x).get = gset H.get k x := funext fun j => Tr.get_set H k j x

/-- The record of a loop, its state turned. -/
theorem loop_put {P : Program} {E : Env} {G : Gh} {w : World} (h : HR P E G w) {l : Nat} {r : ALoop} (hg : G l = some (.loop r)) (st : LoopState) (pe : Option Code) :
    ∃ R : Loop, w.heap[E.ρ l]? = some (.loop R) ∧ R.state = r.state ∧ R.pending = r.pend ∧ R.params = r.params ∧ R.assign = r.assign ∧ R.body = r.body ∧ TR E r.T r.nt R.tmps ∧ E.dom r.defs ∧ R.defers = E.ρ r.defs ∧
      HR P E (gset G l (some (.loop { r with state := st, pend := pe }))) (w.putObj (E.ρ l) (.loop { R with state := st, pending := pe })) ∧
      Stp E E [l] w (w.putObj (E.ρ l) (.loop { R with state := st, pending := pe })) := by
  obtain ⟨tm, fn, h1, h2, h3⟩ := h.obj l _ hg
  refine ⟨_, h1, rfl, rfl, rfl, rfl, rfl, h2, h3, rfl, ?_⟩
  have hlt : E.ρ l < w.heap.size := (Array.getElem?_eq_some_iff.1 h1).1
  exact h.put hg ⟨rfl, rfl, rfl, by simp⟩ (fun k hk => World.putObj_heap_other hk) ⟨tm, fn, World.putObj_heap_same hlt, h2, h3⟩

section
variable {P : Program} {g0 : Nat} {rec : Task → Fs → Res}

theorem zipSet_ok {E : Env} {nt : Nat} : ∀ (ps : List Tmp) (args args' : List Value), VL E args args' → ∀ (T T' : Tr Value) (tm : Array Value), TR E T nt tm → zipSet nt (ps.zip args) T = some T' →
    TR E T' nt ((ps.zip args').foldl (fun tmps (x : Tmp × Value) => tmps.setIfInBounds x.1 x.2) tm)
  | [], _, _, _, T, T', tm, h, hz => by simp [zipSet] at hz; subst hz; exact h
  | p :: ps, _, _, .nil, T, T', tm, h, hz => by simp [zipSet] at hz; subst hz; exact h
  | p :: ps, _, _, .cons v v' l l' hv ht, T, T', tm, h, hz => by
    simp only [List.zip_cons_cons, zipSet] at hz
    cases hp : Nat.blt p nt with
    | false => simp [hp] at hz
    | true =>
      simp only [hp, cond_true] at hz
      simp only [List.zip_cons_cons, List.foldl_cons]
      refine zipSet_ok ps l l' ht _ _ _ ?_ hz
      have := TR.put (a := { tmps := tm, defers := [] }) (dst := some p) (T' := T.set p (some v)) h hv (by simp [putT, hp])
      exact this

theorem endRound_ok {E E2 : Env} {w w3 : World} {a3 : Act} {n nt l : Nat} {s2 : Fs} {r2 : ALoop} {rd : Option Nat} (hf : FRm P g0 E w E2 nt rd s2 a3 w3) (hl : s2.H.get l = some (.loop r2)) (hx : Ext E E2) (hd : E.dom l) (ht : Took E E2 n s2.n) (jump : Option Code) (st : LoopState) (hst : st = if jump.isNone then .ready else .done) :
    ∃ w4, (Instr.endRound (E.ρ l) jump).run P w3 = .ok (.bool jump.isNone) w4 ∧
      CallEnd P E n w (.ret (.bool jump.isNone) (s2.H.set l (some (.loop { r2 with state := st, pend := jump }))) s2.n (l :: s2.wr)) (.returned (.bool jump.isNone)) w4 := by
  obtain ⟨R, q1, q2, q3, q4, q5, q6, q7, q8, q9, k1, k2⟩ := loop_put hf.hr hl st jump
  have e := hx.ρ l hd
  rw [e] at q1 k1 k2
  refine ⟨_, run_endRound jump q1, E2, .bool _, rfl, .bool _, hx, ht, ?_, ?_⟩
  · rw [get_gset, ← hst]; exact k1
  · rw [← hst]; exact hf.stp.trans k2

/-- A round. -/
theorem evRound_ok (hrec : ∀ t s, TOK P g0 t s (rec t s)) {l : Nat} {args : List Value} {H : Tr AObj} {n : Nat} {v : Value} {H' : Tr AObj} {n' : Nat} {wr : List Nat} (hr : evRound rec l args H n = .ret v H' n' wr) :
    Grw n n' H H' wr ∧ ∀ (E : Env) (w : World) (args' : Array Value), (∀ g, g < g0 → E.dom g ∧ E.ρ g = g) → VL E args args'.toList → HR P E H.get w → Low n H → Free E n n' →
      ∃ fn tmps assign body, (Instr.yield (E.ρ l) args').run P w = .ok (.round (E.ρ l) fn tmps assign body) w ∧ ∀ rd, RoundIn (rdF E rd) 0 P (E.ρ l) fn tmps assign body w (CallEnd P E n w (.ret v H' n' wr)) := by
  unfold evRound at hr
  rcases hl : H.get l with _ | ob
  · simp [hl] at hr
  cases ob with
  | loop r =>
    simp only [hl] at hr
    cases hlen : args.length.beq r.params.size with
    | false => simp [hlen] at hr
    | true =>
      simp only [hlen, cond_true] at hr
      cases hz : zipSet r.nt (r.params.toList.zip args) r.T with
      | none => simp [hz] at hr
      | some T =>
        simp only [hz] at hr
        have h1 := hrec (.code r.nt (some l) r.assign) ⟨T, H, n, [], []⟩
        cases hs1 : rec (.code r.nt (some l) r.assign) ⟨T, H, n, [], []⟩ with
        | bad m tr => simp [hs1] at hr
        | ret _ _ _ _ => simp [hs1] at hr
        | pan _ _ _ _ => simp [hs1] at hr
        | code x1 s1 =>
          rw [hs1] at h1
          cases x1 <;> try (simp [hs1] at hr; done)
          simp only [hs1] at hr
          obtain ⟨⟨g1, g1'⟩, h1⟩ := h1
          rcases hl1 : s1.H.get l with _ | ob1
          · simp [hl1] at hr
          cases ob1 with
          | loop r1 =>
            simp only [hl1] at hr
            cases hst : r1.state <;> try (simp [hst] at hr; done)
            simp only [hst] at hr
            obtain ⟨s1b, es1b⟩ : ∃ s1b : Fs, { s1 with H := s1.H.set l (some (.loop { r1 with state := .busy })), wr := l :: s1.wr } = s1b := ⟨_, rfl⟩
            rw [es1b] at hr
            have h2 := hrec (.code r.nt (some l) r.body) s1b
            cases hs2 : rec (.code r.nt (some l) r.body) s1b with
            | bad m tr => simp [hs2] at hr
            | ret _ _ _ _ => simp [hs2] at hr
            | pan _ _ _ _ => simp [hs2] at hr
            | code x s2 =>
              rw [hs2] at h2
              simp only [hs2] at hr
              obtain ⟨⟨g2, g2'⟩, h2⟩ := h2
              rcases hl2 : s2.H.get l with _ | ob2
              · simp [hl2] at hr
              cases ob2 with
              | loop r2 =>
                simp only [hl2] at hr
                cases hdf : s2.df with
                | cons _ _ => simp [hdf] at hr
                | nil =>
                  simp only [hdf] at hr
                  have hn1 : s1b.n = s1.n := by rw [← es1b]
                  have hw1 : s1b.wr = l :: s1.wr := by rw [← es1b]
                  have hH1 : s1b.H = s1.H.set l (some (.loop { r1 with state := .busy })) := by rw [← es1b]
                  -- what comes out
                  have out : ∃ (jump : Option Code) (st : LoopState), st = (if jump.isNone then .ready else .done) ∧ Res.ret v H' n' wr = .ret (.bool jump.isNone) (s2.H.set l (some (.loop { r2 with state := st, pend := jump }))) s2.n (l :: s2.wr) ∧
                      (∀ ch, x ≠ .pan ch) ∧ (x = .normal → jump = none) ∧ (x = .ret → jump = some .ret) ∧ (∀ id, x = .exit id → jump = some (.exit id)) ∧ (∀ t, x = .goto t → jump = some (.goto t)) := by
                    cases x with
                    | normal => exact ⟨none, .ready, rfl, hr.symm, by simp, by simp, by simp, by simp, by simp⟩
                    | ret => exact ⟨some .ret, .done, rfl, hr.symm, by simp, by simp, by simp, by simp, by simp⟩
                    | exit id => exact ⟨some (.exit id), .done, rfl, hr.symm, by simp, by simp, by simp, by simp, by simp⟩
                    | goto t => exact ⟨some (.goto t), .done, rfl, hr.symm, by simp, by simp, by simp, by simp, by simp⟩
                    | pan ch => simp at hr
                  obtain ⟨jump, st, hst', hres, x0, x1, x2, x3, x4⟩ := out
                  rw [hres]
                  simp only [Res.ret.injEq] at hres
                  obtain ⟨rfl, rfl, rfl, rfl⟩ := hres
                  refine ⟨⟨Nat.le_trans g1.le (by rw [← hn1]; exact g2.le), fun k hk hkw => ?_, fun h0 => ?_⟩, fun E w args' hgl hva hH hlow hfree => ?_⟩
                  · simp at hkw
                    rw [Tr.get_set_ne _ _ hkw.1, g2.same k (by rw [hn1]; have := g1.le; simp at this; omega) hkw.2, hH1, Tr.get_set_ne _ _ hkw.1]
                    exact g1.same k hk (fun hk1 => hkw.2 (g2' k (by rw [hw1]; simp [hk1])))
                  · have l1 := g1.low h0
                    have l2 : Low s1b.n s1b.H := by rw [hn1, hH1]; exact l1.set (l1.lt (by rw [hl1]; simp)) _
                    have l3 := g2.low l2
                    exact l3.set (l3.lt (by rw [hl2]; simp)) _
                  · have hd : E.dom l := hH.live (by rw [hl]; simp)
                    obtain ⟨R, q1, q2, q3, q4, q5, q6, q7, q8, q9, _, _⟩ := loop_put hH hl .busy none
                    have hsz : args'.size = R.params.size := by
                      rw [q4]; have := hva.length; have e := Nat.eq_of_beq_eq_true hlen; simp at this; omega
                    refine ⟨_, _, _, _, run_yield q1 hsz, fun rd => ?_⟩
                    have hF : (rdF E rd).inRound (E.ρ l) = rdF E (some l) := by cases rd <;> rfl
                    have hle1 : n ≤ s1.n := g1.le
                    have hle2 : s1.n ≤ s2.n := by rw [← hn1]; exact g2.le
                    refine roundIn_of_wpIn (rdF_fn E rd _) ?_
                    rw [hF, q5, q6]
                    have hT : TR E T r.nt ((R.params.zip args').foldl (fun tmps (x : Tmp × Value) => tmps.setIfInBounds x.1 x.2) R.tmps) := by
                      have := zipSet_ok r.params.toList args args'.toList hva _ _ _ q7 hz
                      rw [q4, ← Array.foldl_toList, Array.toList_zip]
                      exact this
                    have hfr : FRm P g0 E w E r.nt (some l) ⟨T, H, n, [], []⟩ { tmps := (R.params.zip args').foldl (fun tmps (x : Tmp × Value) => tmps.setIfInBounds x.1 x.2) R.tmps, defers := [] } w :=
                      ⟨hT, hH, hlow, .refl E w, .nil, hgl, fun k e => by cases e; exact hd⟩
                    refine wpIn_mono (h1 E w E _ w hfr (Free.left hfree hle2)) (fun e a1 w1 hp => ?_)
                    obtain ⟨E1, ex1, tk1, fr1, xr1⟩ := hp
                    cases e <;> try (exact False.elim xr1)
                    show ∃ w₂, _ ∧ _
                    obtain ⟨R1, p1, p2, p3, p4, p5, p6, p7, p8, p9, k1, k2⟩ := loop_put fr1.hr hl1 .busy r1.pend
                    have e1 := ex1.ρ l hd
                    have hrf : rdF E (some l) = rdF E1 (some l) := by simp [rdF, e1]
                    have hpe : ({ R1 with state := .busy, pending := r1.pend } : Loop) = { R1 with state := .busy } := by rw [← p3]
                    rw [hpe] at k1 k2
                    refine ⟨_, by rw [← e1]; exact run_beginRound p1 (by rw [p2, hst]), ?_⟩
                    have hpost : ∀ e a' w', CPost P g0 E w E1 r.nt (some l) s1b.n x s2 e a' w' → roundPost P (E.ρ l) (CallEnd P E n w (.ret (.bool jump.isNone) (s2.H.set l (some (.loop { r2 with state := st, pend := jump }))) s2.n (l :: s2.wr))) e a' w' := by
                      rintro e a' w' ⟨E2, ex2, tk2, fr2, xr2⟩
                      rw [hn1] at tk2
                      obtain ⟨w4, m1, m2⟩ := endRound_ok fr2 hl2 (ex1.trans ex2) hd (tk1.trans tk2 hle1 hle2) jump st hst'
                      cases x with
                      | normal =>
                                  cases e <;> try (exact False.elim xr2)
                                  · (have := x1 rfl; subst this; exact ⟨_, w4, m1, m2⟩)
                      | ret =>
                                  cases e <;> try (exact False.elim xr2)
                                  · (have := x2 rfl; subst this; exact ⟨_, w4, m1, m2⟩)
                      | exit id =>
                                  cases e <;> try (exact False.elim xr2)
                                  · (have := x3 id rfl; subst this; cases xr2; exact ⟨_, w4, m1, m2⟩)
                      | goto t =>
                                  cases e <;> try (exact False.elim xr2)
                                  · (have := x4 t rfl; subst this; cases xr2; exact ⟨_, w4, m1, m2⟩)
                      | pan ch => exact absurd rfl (x0 ch)
                    rw [hrf]
                    refine wpIn_mono (h2 E w E1 a1 (w1.putObj (E1.ρ l) (.loop { R1 with state := .busy })) ?_ ?_) hpost
                    · refine ⟨?_, ?_, ?_, ?_, ?_, fr1.gl, fr1.rd⟩
                      · rw [← es1b]; exact fr1.tr
                      · rw [hH1, get_gset]; exact k1
                      · rw [hn1, hH1]; exact fr1.lw.set (fr1.lw.lt (by rw [hl1]; simp)) _
                      · rw [hw1]; exact fr1.stp.trans k2
                      · rw [← es1b]; exact fr1.df
                    · rw [hn1]; exact Free.right hfree tk1 hle1
              | _ => simp [hl2] at hr
          | _ => simp [hl1] at hr
  | _ => simp [hl] at hr
end
end Go.Proofs.YtgfjmkjhjfmbeaaGreat
