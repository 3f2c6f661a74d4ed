/- DERIVED. The machine M, fourteenth part: plain regions, code, ranges over functions, functions. -/
import Derived.Test.YtgfjmkjhjfmbeaaGreatM13
import Derived.RangeFuncNested
namespace Go.Proofs.YtgfjmkjhjfmbeaaGreat
open Go.RowKit

section
variable {P : Program} {g0 : Nat} {rec : Task → Fs → Res}

theorem FRm.next {E0 : Env} {w0 : World} {E E1 : Env} {nt : Nat} {rd : Option Nat} {s : Fs} {a : Act} {w : World} (_h : FRm P g0 E0 w0 E nt rd s a w) (hx : Ext E E1) : rdF E1 rd = rdF E rd := rdF_ext hx _h.rd

theorem evOps_ok (hrec : ∀ t s, TOK P g0 t s (rec t s)) {nt : Nat} {rd : Option Nat} {ops : Array Oper} : ∀ (l : List Nat) (s : Fs) (x : Ex) (s' : Fs), evOps P g0 rec nt rd ops l s = .code x s' →
    (Grw s.n s'.n s.H s'.H s'.wr ∧ ∀ k ∈ s.wr, k ∈ s'.wr) ∧ ∀ (E0 : Env) (w0 : World) (E : Env) (a : Act) (w : World) (Q : Exit → Act → World → Prop), FRm P g0 E0 w0 E nt rd s a w → Free E s.n s'.n → (∀ e a w, CPost P g0 E0 w0 E nt rd s.n x s' e a w → Q e a w) → wpOpsIn (rdF E rd) 0 P ops Q l a w := by
  intro l
  induction l with
  | nil =>
    intro s x s' hr
    simp only [evOps, Res.code.injEq] at hr
    obtain ⟨rfl, rfl⟩ := hr
    exact ⟨⟨Grw.refl _ _ _, fun k hk => hk⟩, fun E0 w0 E a w Q hf _ hQ => hQ _ _ _ ⟨E, .refl E, .refl E _, hf, trivial⟩⟩
  | cons i l ih =>
    intro s x s' hr
    simp only [evOps] at hr
    cases ho : ops[i]? with
    | none =>
      simp only [ho] at hr
      obtain ⟨h1, h2⟩ := ih s x s' hr
      refine ⟨h1, fun E0 w0 E a w Q hf hfree hQ => ?_⟩
      simp only [wpOpsIn, ho]; exact h2 E0 w0 E a w Q hf hfree hQ
    | some o =>
      simp only [ho] at hr
      cases hg : guardOk ops s.T o with
      | false =>
        simp only [hg, cond_false] at hr
        cases hp : putT nt s.T o.dst undef with
        | none => simp [hp] at hr
        | some T' =>
          simp only [hp] at hr
          obtain ⟨h1, h2⟩ := ih _ x s' hr
          refine ⟨h1, fun E0 w0 E a w Q hf hfree hQ => ?_⟩
          simp only [wpOpsIn, ho]
          rw [if_neg (by rw [guard_eq hf.tr ops o, hg]; simp)]
          exact ⟨fun f _ => rdF_fn E rd f, h2 E0 w0 E (a.put o.dst undef) w Q ⟨hf.tr.put VR.undef hp, hf.hr, hf.lw, hf.stp, by rw [put_defers]; exact hf.df, hf.gl, hf.rd⟩ hfree hQ⟩
      | true =>
        simp only [hg, cond_true] at hr
        cases hop : evOp P g0 rec nt rd o s with
        | bad m tr => simp [hop] at hr
        | ret _ _ _ _ => simp [hop] at hr
        | pan _ _ _ _ => simp [hop] at hr
        | code x1 s1 =>
          obtain ⟨⟨g1, g1'⟩, hw⟩ := evOp_ok hrec hop
          by_cases hx1 : x1 = .normal
          · subst hx1
            simp only [hop] at hr
            obtain ⟨⟨g2, g2'⟩, h2⟩ := ih _ x s' hr
            refine ⟨⟨g1.trans g2 g2', fun k hk => g2' k (g1' k hk)⟩, fun E0 w0 E a w Q hf hfree hQ => ?_⟩
            simp only [wpOpsIn, ho]
            rw [if_pos (by rw [guard_eq hf.tr ops o, hg])]
            refine hw E0 w0 E a w _ _ hf (hfree.left g2.le) (fun E1 a1 w1 _ hx ht hf1 => ?_) (fun E1 ch ch' w1 e => by cases e)
            have := h2 E0 w0 E1 a1 w1 Q hf1 (hfree.right ht g1.le) (fun e a w hq => hQ _ _ _ (CPost.trans hx ht g1.le g2.le hq))
            rwa [hf.next hx] at this
          · have hr' : Res.code x1 s1 = .code x s' := by
              rw [hop] at hr
              cases x1 <;> first | exact absurd rfl hx1 | exact hr
            simp only [Res.code.injEq] at hr'
            obtain ⟨rfl, rfl⟩ := hr'
            refine ⟨⟨g1, g1'⟩, fun E0 w0 E a w Q hf hfree hQ => ?_⟩
            simp only [wpOpsIn, ho]
            rw [if_pos (by rw [guard_eq hf.tr ops o, hg])]
            exact hw E0 w0 E a w _ _ hf hfree (fun E1 a1 w1 e => absurd e hx1) (fun E1 ch ch' w1 e hx ht hf1 hc => hQ _ _ _ ⟨E1, hx, ht, hf1, by rw [e]; exact hc⟩)

theorem exR_normal {E : Env} {e : Exit} (h : exR E .normal e) : e = .normal := by cases e <;> first | rfl | exact False.elim h

theorem then_of {E : Env} {x : Ex} {e : Exit} {K : Act → World → Prop} {Q : Exit → Act → World → Prop} {a : Act} {w : World} (hx : x ≠ .normal) (he : exR E x e) (h : Q e a w) : Exit.then K Q e a w := by
  cases e with
  | normal => cases x <;> first | exact absurd rfl hx | exact False.elim he
  | _ => exact h

theorem evRegion_ok (hrec : ∀ t s, TOK P g0 t s (rec t s)) {nt : Nat} {rd : Option Nat} {ops : Array Oper} {id : Nat} {s s' : Fs} {x : Ex} (hr : evOps P g0 rec nt rd ops (List.range ops.size) s = .code x s') : CodeOK P g0 nt rd (.region id ops false) s x s' := by
  obtain ⟨h1, h2⟩ := evOps_ok hrec _ _ _ _ hr
  exact ⟨h1, fun E0 w0 E a w hf hfree => wpIn_region (h2 E0 w0 E a w _ hf hfree (fun _ _ _ h => h))⟩

theorem evLoop_ok (hrec : ∀ t s, TOK P g0 t s (rec t s)) {nt : Nat} {rd : Option Nat} {c : Code} {s s' : Fs} {x : Ex} (hr : evLoop rec nt rd c s = .code x s') : LoopOK P g0 nt rd c s x s' := by
  unfold evLoop at hr
  have h1 := hrec (.code nt rd c) s
  cases hs : rec (.code nt rd c) s with
  | bad m tr => simp [hs] at hr
  | ret _ _ _ _ => simp [hs] at hr
  | pan _ _ _ _ => simp [hs] at hr
  | code x1 s1 =>
    rw [hs] at h1
    obtain ⟨⟨g1, g1'⟩, w1⟩ := h1
    by_cases hx1 : x1 = .normal
    · subst hx1
      simp only [hs] at hr
      have h2 := hrec (.loop nt rd c) s1
      rw [hr] at h2
      obtain ⟨⟨g2, g2'⟩, w2⟩ := h2
      refine ⟨⟨g1.trans g2 g2', fun k hk => g2' k (g1' k hk)⟩, fun E0 w0 E a w hf hfree => inLoop_round (wpIn_mono (w1 E0 w0 E a w hf (hfree.left g2.le)) ?_)⟩
      rintro e a1 w1' ⟨E1, hx, ht, hf1, he⟩
      cases exR_normal he
      have := w2 E0 w0 E1 a1 w1' hf1 (hfree.right ht g1.le)
      rw [hf.next hx] at this
      intro b k cs q1 q2 q3
      obtain ⟨e, a', w', hq, harr⟩ := this b k cs q1 q2 q3
      exact ⟨e, a', w', CPost.trans hx ht g1.le g2.le hq, harr⟩
    · have hr' : Res.code x1 s1 = .code x s' := by rw [hs] at hr; cases x1 <;> first | exact absurd rfl hx1 | exact hr
      simp only [Res.code.injEq] at hr'
      obtain ⟨rfl, rfl⟩ := hr'
      refine ⟨⟨g1, g1'⟩, fun E0 w0 E a w hf hfree => inLoop_round (wpIn_mono (w1 E0 w0 E a w hf hfree) ?_)⟩
      rintro e a1 w1' hp
      obtain ⟨E1, hx, ht, hf1, he⟩ := id hp
      exact then_of hx1 he hp

theorem get_set2 (H : Tr AObj) (k : Nat) (x : Option AObj) : (H.set k x).get = gset H.get k x := get_gset H k x

theorem Stp.trans' {A B C : Env} {W V X : List Nat} {w w1 w2 : World} (h : Stp A B W w w1) (k : Stp B C V w1 w2) (hx : ∀ y, y ∈ V ∨ y ∈ W → y ∈ X) : Stp A C X w w2 :=
  (h.trans k).sub (fun y hy _ => hx y (by simpa using hy))

theorem evRangeGo_ok (hrec : ∀ t s, TOK P g0 t s (rec t s)) {nt : Nat} {rd : Option Nat} {params : Array Tmp} {assign body : Code} {f : FuncId} {first cap : List Value} {s s' : Fs} {d : Nat} {H1 : Tr AObj} {n1 : Nat} {df1 : List ADf} {x : Ex}
    (hr : evRangeGo rec nt rd params assign body f first cap s d H1 n1 df1 = .code x s') :
    (Grw n1 s'.n H1 s'.H s'.wr ∧ ∀ k ∈ s.wr, k ∈ s'.wr) ∧
    ∀ (E0 : Env) (w0 : World) (E : Env) (a : Act) (w : World) (E1 : Env) (w1 : World) (mark : List Deferred) (first' cap' : Array Value) (fn : FuncId), FRm P g0 E0 w0 E nt rd s a w → Free E s.n s'.n →
      s.n ≤ n1 → Low n1 H1 → Ext E E1 → Took E E1 s.n n1 → HR P E1 H1.get w1 → Stp E E1 [] w w1 → E1.dom d → DR E1 df1 (mark ++ a.defers) → VL E1 first first'.toList → VL E1 cap cap'.toList →
      CallsIn (rdF E rd) (0 - 1) P f (first' ++ #[.func (.yield w1.heap.size) #[] #[]] ++ cap') (w1.alloc (.loop { state := .ready, pending := none, fn, tmps := a.tmps, params, assign, body, defers := E1.ρ d }))
        (rangePost (rdF E rd) 0 P w1.heap.size (CPost P g0 E0 w0 E nt rd s.n x s') { a with defers := mark ++ a.defers }) := by
  unfold evRangeGo at hr
  obtain ⟨H2, hH2⟩ : ∃ H2, H1.set n1 (some (.loop { state := .ready, pend := none, T := s.T, nt, params, assign, body, defs := d })) = H2 := ⟨_, rfl⟩
  rw [hH2] at hr
  have ht := hrec (.call f (first ++ [.func (.yield n1) #[] #[]] ++ cap)) ⟨.e, H2, n1 + 1, [], []⟩
  generalize rec (.call f (first ++ [.func (.yield n1) #[] #[]] ++ cap)) ⟨.e, H2, n1 + 1, [], []⟩ = RR at hr ht
  cases RR with
  | bad m tr => simp at hr
  | code _ _ => simp at hr
  | pan _ _ _ _ => simp at hr
  | ret v H n wr =>
    obtain ⟨hg, hcall⟩ := ht
    have hg : Grw (n1 + 1) n H2 H wr := hg
    simp only [] at hr
    rcases hl : H.get n1 with _ | ob
    · simp [hl] at hr
    cases ob with
    | loop r =>
      simp only [hl] at hr
      obtain ⟨s1, hs1⟩ : ∃ s1 : Fs, (⟨s.T, H.set n1 (some (.loop { r with state := .exhausted })), n, n1 :: (wr ++ s.wr), df1⟩ : Fs) = s1 := ⟨_, rfl⟩
      rw [hs1] at hr
      have hnb : r.state ≠ .busy := fun e => by simp [e] at hr
      have hr2 : (match r.pend with | none => Res.code .normal s1 | some j => rec (.code nt rd j) s1) = .code x s' := by
        cases hst : r.state <;> rw [hst] at hr <;> first | exact hr | simp at hr
      have hs1n : s1.n = n := by rw [← hs1]
      have hs1w : s1.wr = n1 :: (wr ++ s.wr) := by rw [← hs1]
      -- what M keeps
      have g1 : Grw n1 n H1 s1.H s1.wr := by
        refine ⟨by have := hg.le; omega, fun k hk hkw => ?_, fun h0 => ?_⟩
        · rw [hs1w] at hkw; simp at hkw
          rw [← hs1]
          show (H.set n1 _).get k = _
          rw [Tr.get_set_ne _ _ hkw.1, hg.same k (by omega) hkw.2.1, ← hH2, Tr.get_set_ne _ _ hkw.1]
        · have l1 := hg.low (by rw [← hH2]; exact h0.new _)
          rw [← hs1]
          exact l1.set (l1.lt (by rw [hl]; simp)) _
      have hgrw : Grw n1 s'.n H1 s'.H s'.wr ∧ (∀ k ∈ s.wr, k ∈ s'.wr) ∧ n ≤ s'.n := by
        cases hp : r.pend with
        | none =>
          simp only [hp, Res.code.injEq] at hr2
          obtain ⟨rfl, rfl⟩ := hr2
          exact ⟨by rw [hs1n]; exact g1, fun k hk => by rw [hs1w]; simp [hk], Nat.le_of_eq hs1n.symm⟩
        | some j =>
          simp only [hp] at hr2
          have h3 := hrec (.code nt rd j) s1
          rw [hr2] at h3
          obtain ⟨⟨g3, g3'⟩, _⟩ := h3
          rw [hs1n] at g3
          exact ⟨g1.trans g3 g3', fun k hk => g3' k (by rw [hs1w]; simp [hk]), g3.le⟩
      refine ⟨⟨hgrw.1, hgrw.2.1⟩, ?_⟩
      intro E0 w0 E a w E1 w1 mark first' cap' fn hf hfree hn1 hlow1 hx1 ht1 hH1 hst1 hd hdf hvf hvc
      have hns : n ≤ s'.n := hgrw.2.2
      have hn1' : n1 + 1 ≤ n := hg.le
      have hfr1 : Free E1 n1 s'.n := hfree.right ht1 hn1
      have hnd : ¬ E1.dom n1 := hfr1 n1 (Nat.le_refl _) (by omega)
      have hor : OR P (E1.push n1 w1.heap.size 0 0) (w1.alloc (.loop { state := .ready, pending := none, fn, tmps := a.tmps, params, assign, body, defers := E1.ρ d })) n1 (.loop { state := .ready, pend := none, T := s.T, nt, params, assign, body, defs := d }) := by
        refine ⟨a.tmps, fn, ?_, (hf.tr.ext hx1).ext (Env.push_ext hnd _ _ _), .inr hd⟩
        rw [Env.push_ρ, (Env.push_ext hnd w1.heap.size 0 0).ρ d hd]
        exact heap_alloc_new w1 _
      obtain ⟨k1, k2⟩ := hH1.new hnd _ _ 0 0 hor
      have hx2 : Ext E (E1.push n1 w1.heap.size 0 0) := hx1.trans k2.ext
      have hy : VR (E1.push n1 w1.heap.size 0 0) (.func (.yield n1) #[] #[]) (.func (.yield w1.heap.size) #[] #[]) := by
        have := VR.yield (E := E1.push n1 w1.heap.size 0 0) n1 (Env.push_dom _ _ _ _ _)
        rwa [Env.push_ρ] at this
      have hva : VL (E1.push n1 w1.heap.size 0 0) (first ++ [Value.func (.yield n1) #[] #[]] ++ cap) (first' ++ #[Value.func (.yield w1.heap.size) #[] #[]] ++ cap').toList := by
        simp only [Array.toList_append]
        exact ((hvf.ext k2.ext).append (.cons _ _ _ _ hy .nil)).append (hvc.ext k2.ext)
      have hgl : ∀ (E' : Env), Ext E E' → ∀ g, g < g0 → E'.dom g ∧ E'.ρ g = g := fun E' hx g hg => ⟨hx.n g (hf.gl g hg).1, by rw [hx.ρ g (hf.gl g hg).1]; exact (hf.gl g hg).2⟩
      have ht2 : Took E1 (E1.push n1 w1.heap.size 0 0) n1 (n1 + 1) := dom1
      refine callsIn_rd ((hcall _ _ _ (hgl _ hx2) hva (by rw [← hH2, get_gset]; exact k1) (by rw [← hH2]; exact hlow1.new _) ((hfr1.right ht2 (by omega)).left hns)).mono fun e w3 he => ?_)
      obtain ⟨E3, v', rfl, hv, hx3, ht3, hH3, hst3⟩ := he
      have ht3 : Took (E1.push n1 w1.heap.size 0 0) E3 (n1 + 1) n := ht3
      obtain ⟨R, q1, q2, q3, q4, q5, q6, q7, q8, q9, m1, m2⟩ := loop_put hH3 hl .exhausted r.pend
      have hρ : E3.ρ n1 = w1.heap.size := by rw [hx3.ρ n1 (Env.push_dom _ _ _ _ _), Env.push_ρ]
      rw [hρ] at q1 m1 m2
      have hrun : (Instr.endLoop w1.heap.size).run P w3 = .ok r.pend (w3.putObj w1.heap.size (.loop { R with state := .exhausted, pending := r.pend })) := by
        rw [run_endLoop (P := P) q1 (by rw [q2]; exact hnb), ← q3]
      refine ⟨r.pend, _, hrun, ?_⟩
      have hxE3 : Ext E E3 := hx2.trans hx3
      have htE3 : Took E E3 s.n n := (ht1.trans ht2 hn1 (by omega)).trans ht3 (by omega) hn1'
      have hf3 : FRm P g0 E0 w0 E3 nt rd s1 { a with defers := mark ++ a.defers } (w3.putObj w1.heap.size (.loop { R with state := .exhausted, pending := r.pend })) := by
        have hlow3 := g1.low hlow1
        rw [← hs1] at hlow3 ⊢
        refine ⟨hf.tr.ext hxE3, by rw [get_gset]; exact m1, hlow3, ?_, (hdf.ext (k2.ext.trans hx3)), hgl _ hxE3, fun l hl => hxE3.n l (hf.rd l hl)⟩
        exact (((hf.stp.trans hst1).trans k2).trans hst3).trans' m2 (fun y hy => by simp at hy ⊢; rcases hy with h | h | h <;> simp [h])
      cases hp : r.pend with
      | none =>
        rw [hp] at hf3
        simp only [hp, Res.code.injEq] at hr2
        obtain ⟨rfl, rfl⟩ := hr2
        exact ⟨E3, hxE3, by rw [hs1n]; exact htE3, hf3, trivial⟩
      | some j =>
        rw [hp] at hf3
        simp only [hp] at hr2
        have h3 := hrec (.code nt rd j) s1
        rw [hr2] at h3
        obtain ⟨⟨g3, _⟩, w3'⟩ := h3
        have := w3' E0 w0 E3 _ _ hf3 (by rw [hs1n]; exact hfree.right htE3 (by omega))
        rw [hf.next hxE3] at this
        exact wpIn_mono this (fun e a' w' hq => CPost.trans hxE3 (by rw [hs1n]; exact htE3) (by omega) g3.le hq)
    | _ => simp [hl] at hr

theorem range_in {E : Env} {rd : Option Nat} {g : Operand} {params : Array Tmp} {assign body : Code} {Q : Exit → Act → World → Prop} {a : Act} {w W : World} {fn l : Nat} {mark : List Deferred} {d : Deferred} {f : FuncId} {args : Array Value}
    (h1 : (Instr.enterLoop fn a.tmps params assign body (rdF E rd).round).run P w = .ok (l, mark) W) (h2 : (resolve a.eval (rangeCall g l) 0).run P W = .ok d W) (h3 : (invoke d.target d.args).run P W = .ok (.enter f args) W)
    (h4 : CallsIn (rdF E rd) (0 - 1) P f args W (rangePost (rdF E rd) 0 P l Q { a with defers := mark ++ a.defers })) :
    ∃ (l : Nat) (mark : List Deferred) (w₁ : World) (d : Deferred) (w₁' : World) (f : FuncId) (args : Array Value) (w₂ : World),
      (Instr.enterLoop fn a.tmps params assign body (rdF E rd).round).run P w = .ok (l, mark) w₁ ∧
      (resolve a.eval (rangeCall g l) 0).run P w₁ = .ok d w₁' ∧
      (∀ f', Target.leads P w₁' d.target d.args = some f' → (rdF E rd).fn f') ∧
      (invoke d.target d.args).run P w₁' = .ok (.enter f args) w₂ ∧
      ((rdF E rd).depth.isSome = true → 1 ≤ 0) ∧
      CallsIn (rdF E rd) (0 - 1) P f args w₂ (rangePost (rdF E rd) 0 P l Q { a with defers := mark ++ a.defers }) :=
  ⟨l, mark, W, d, W, f, args, W, h1, h2, fun f' _ => rdF_fn E rd f', h3, (fun h => by rw [rdF_depth] at h; cases h), h4⟩

/-- A range over a function. -/
theorem evRange_ok (hrec : ∀ t s, TOK P g0 t s (rec t s)) {nt : Nat} {rd : Option Nat} {g : Operand} {params : Array Tmp} {assign body : Code} {s s' : Fs} {x : Ex} (hr : evCode P g0 rec nt rd (.rangeFunc g params assign body) s = .code x s') :
    CodeOK P g0 nt rd (.rangeFunc g params assign body) s x s' := by
  simp only [evCode] at hr
  cases hok : okX g0 g with
  | false => simp [hok] at hr
  | true =>
    simp only [hok, cond_true] at hr
    split at hr
    · rename_i f first cap hev
      cases hca : callable P f with
      | false => simp [hca] at hr
      | true =>
        simp only [hca, cond_true] at hr
        obtain ⟨_, _, _, _, hrun⟩ := callable_spec hca
        have hfun : ∀ {E : Env} {a : Act}, TR E s.T nt a.tmps → (∀ g, g < g0 → E.dom g ∧ E.ρ g = g) → ∃ first' cap', a.eval g = .func (.func f) first' cap' ∧ VL E first.toList first'.toList ∧ VL E cap.toList cap'.toList := by
          intro E a hT hgl
          have hvg := aev_rel hT hgl hok
          rw [hev] at hvg
          cases hv' : a.eval g <;> rw [hv'] at hvg <;> cases hvg
          exact ⟨_, _, rfl, ‹_›, ‹_›⟩
        cases rd with
        | none =>
          simp only [] at hr
          obtain ⟨⟨g1, g1'⟩, hgo⟩ := evRangeGo_ok hrec hr
          refine ⟨⟨⟨by have := g1.le; omega, fun k hk hkw => ?_, fun h0 => g1.low (h0.new _)⟩, g1'⟩, fun E0 w0 E a w hf hfree => wpIn_rangeFunc fun fn _ => ?_⟩
          · rw [g1.same k (by omega) hkw, Tr.get_set_ne _ _ (by omega)]
          · obtain ⟨first', cap', he, hv1, hv2⟩ := hfun hf.tr hf.gl
            have hconst : ∀ v, a.eval (.const v) = v := fun _ => rfl
            have hnd : ¬ E.dom s.n := hfree s.n (Nat.le_refl _) (by have := g1.le; omega)
            obtain ⟨k1, k2⟩ := hf.hr.new hnd (.deferred (some [])) .defs 0 0 (by show _ = _; rw [Env.push_ρ]; exact heap_alloc_new w _)
            have hx := Env.push_ext hnd w.heap.size 0 0
            have := hgo E0 w0 E a w _ _ [{ target := .collected w.heap.size, args := #[] }] first' cap' fn hf hfree (by omega) (hf.lw.new _) hx dom1 (by rw [get_gset]; exact k1) k2 (Env.push_dom _ _ _ _ _) ?_ (hv1.ext hx) (hv2.ext hx)
            · rw [Env.push_ρ, World.size_alloc] at this
              obtain ⟨W, hW⟩ : ∃ W, (w.alloc (.deferred (some []))).alloc (.loop { state := .ready, pending := none, fn, tmps := a.tmps, params, assign, body, defers := w.heap.size }) = W := ⟨_, rfl⟩
              have hent := run_enterLoop_outer (P := P) (w := w) fn a.tmps params assign body
              rw [hW] at hent this
              exact range_in (d := { target := .fn (.func f) cap', args := first' ++ #[.func (.yield (w.heap.size + 1)) #[] #[]] }) hent (by simp [resolve, he, hconst, Deferred.ofValue]) (by simp [invoke, hrun]) this
            · have := DR.mark (E := E.push s.n w.heap.size 0 0) s.n s.df a.defers (Env.push_dom _ _ _ _ _) (hf.df.ext hx)
              rw [Env.push_ρ] at this
              exact this
        | some l =>
          simp only [] at hr
          rcases hl : s.H.get l with _ | ob
          · simp [hl] at hr
          cases ob with
          | loop r =>
            simp only [hl] at hr
            obtain ⟨⟨g1, g1'⟩, hgo⟩ := evRangeGo_ok hrec hr
            refine ⟨⟨g1, g1'⟩, fun E0 w0 E a w hf hfree => wpIn_rangeFunc fun fn _ => ?_⟩
            obtain ⟨first', cap', he, hv1, hv2⟩ := hfun hf.tr hf.gl
            have hconst : ∀ v, a.eval (.const v) = v := fun _ => rfl
            obtain ⟨tm, fn0, q1, q2, q3⟩ := hf.hr.obj l _ hl
            have := hgo E0 w0 E a w E w [] first' cap' fn hf hfree (Nat.le_refl _) hf.lw (.refl E) (.refl E _) hf.hr (.refl E w) q3 hf.df hv1 hv2
            obtain ⟨W, hW⟩ : ∃ W, w.alloc (.loop { state := .ready, pending := none, fn, tmps := a.tmps, params, assign, body, defers := E.ρ r.defs }) = W := ⟨_, rfl⟩
            have hent := run_enterLoop_inner (P := P) q1 fn a.tmps params assign body
            rw [hW] at this
            have hent : (Instr.enterLoop fn a.tmps params assign body (rdF E (some l)).round).run P w = .ok (w.heap.size, []) W := by rw [← hW]; exact hent
            exact range_in (d := { target := .fn (.func f) cap', args := first' ++ #[.func (.yield w.heap.size) #[] #[]] }) hent (by simp [resolve, he, hconst, Deferred.ofValue]) (by simp [invoke, hrun]) this
          | _ => simp [hl] at hr
    · simp at hr
end
end Go.Proofs.YtgfjmkjhjfmbeaaGreat
