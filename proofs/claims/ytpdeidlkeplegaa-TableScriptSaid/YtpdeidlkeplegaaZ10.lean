/- DERIVED. Texts put together: M14, M15, M16, M17, M18, M19. -/
import Derived.RangeFuncNested
import Derived.Test.YtpdeidlkeplegaaZ9
set_option maxRecDepth 1000000
set_option maxHeartbeats 32000000
namespace Go.Proofs.Ytpdeidlkeplegaa
open Go.RowKit
section
variable {P : Program} {g0 : Nat} {rec : Task → Fs → Res}
theorem FRm.next {E0 : Env} {w0 : World} {E E1 : Env} {nt : Nat} {rd : Option Nat} {s : Fs} {a : Act} {w : World} (_h : FRm P g0 E0 w0 E nt rd s a w) (hx : Ext E E1) : rdF E1 rd = rdF E rd := zDu hx _h.rd
theorem evOps_ok (hrec : ∀ t s, TOK P g0 t s (rec t s)) {nt : Nat} {rd : Option Nat} {ops : Array Oper} : ∀ (l : List Nat) (s : Fs) (x : Ex) (s' : Fs), evOps P g0 rec nt rd ops l s = .code x s' →
  (Grw s.n s'.n s.H s'.H s'.wr ∧ ∀ k ∈ s.wr, k ∈ s'.wr) ∧ ∀ (E0 : Env) (w0 : World) (E : Env) (a : Act) (w : World) (Q : Exit → Act → World → Prop), FRm P g0 E0 w0 E nt rd s a w → Free E s.n s'.n → (∀ e a w, CPost P g0 E0 w0 E nt rd s.n x s' e a w → Q e a w) → wpOpsIn (rdF E rd) 0 P ops Q l a w := by
 intro l
 induction l with
 | nil =>
  intro s x s' hr
  simp only [evOps, Res.code.injEq] at hr
  obtain ⟨rfl, rfl⟩ := hr
  exact ⟨⟨Grw.refl _ _ _, fun k hk => hk⟩, fun E0 w0 E a w Q hf _ hQ => hQ _ _ _ ⟨E, .refl E, .refl E _, hf, trivial⟩⟩
 | cons i l ih =>
  intro s x s' hr
  simp only [evOps] at hr
  cases ho : ops[i]? with
  | none =>
   simp only [ho] at hr
   obtain ⟨h1, h2⟩ := ih s x s' hr
   refine ⟨h1, fun E0 w0 E a w Q hf hfree hQ => ?_⟩
   simp only [wpOpsIn, ho]; exact h2 E0 w0 E a w Q hf hfree hQ
  | some o =>
   simp only [ho] at hr
   cases hg : guardOk ops s.T o with
   | false =>
    simp only [hg, cond_false] at hr
    cases hp : putT nt s.T o.dst undef with
    | none => simp [hp] at hr
    | some T' =>
     simp only [hp] at hr
     obtain ⟨h1, h2⟩ := ih _ x s' hr
     refine ⟨h1, fun E0 w0 E a w Q hf hfree hQ => ?_⟩
     simp only [wpOpsIn, ho]
     rw [if_neg (by rw [zCq hf.tr ops o, hg]; simp)]
     exact ⟨fun f _ => zKw E rd f, h2 E0 w0 E (a.put o.dst undef) w Q ⟨hf.tr.put VR.undef hp, hf.hr, hf.lw, hf.stp, by rw [zAm]; exact hf.df, hf.gl, hf.rd⟩ hfree hQ⟩
   | true =>
    simp only [hg, cond_true] at hr
    cases hop : evOp P g0 rec nt rd o s with
    | bad m tr => simp [hop] at hr
    | ret _ _ _ _ => simp [hop] at hr
    | pan _ _ _ _ => simp [hop] at hr
    | code x1 s1 =>
     obtain ⟨⟨g1, g1'⟩, hw⟩ := evOp_ok hrec hop
     by_cases hx1 : x1 = .normal
     ·subst hx1
      simp only [hop] at hr
      obtain ⟨⟨g2, g2'⟩, h2⟩ := ih _ x s' hr
      refine ⟨⟨g1.trans g2 g2', fun k hk => g2' k (g1' k hk)⟩, fun E0 w0 E a w Q hf hfree hQ => ?_⟩
      simp only [wpOpsIn, ho]
      rw [if_pos (by rw [zCq hf.tr ops o, hg])]
      refine hw E0 w0 E a w _ _ hf (hfree.left g2.le) (fun E1 a1 w1 _ hx ht hf1 => ?_) (fun E1 ch ch' w1 e => by cases e)
      have := h2 E0 w0 E1 a1 w1 Q hf1 (hfree.right ht g1.le) (fun e a w hq => hQ _ _ _ (CPost.trans hx ht g1.le g2.le hq))
      rwa [hf.next hx] at this
     ·have hr' : Res.code x1 s1 = .code x s' := by
       rw [hop] at hr
       cases x1 <;> first | exact absurd rfl hx1 | exact hr
      simp only [Res.code.injEq] at hr'
      obtain ⟨rfl, rfl⟩ := hr'
      refine ⟨⟨g1, g1'⟩, fun E0 w0 E a w Q hf hfree hQ => ?_⟩
      simp only [wpOpsIn, ho]
      rw [if_pos (by rw [zCq hf.tr ops o, hg])]
      exact hw E0 w0 E a w _ _ hf hfree (fun E1 a1 w1 e => absurd e hx1) (fun E1 ch ch' w1 e hx ht hf1 hc => hQ _ _ _ ⟨E1, hx, ht, hf1, by rw [e]; exact hc⟩)
theorem zFa {E : Env} {e : Exit} (h : exR E .normal e) : e = .normal := by cases e <;> first | rfl | exact False.elim h
theorem zMp {E : Env} {x : Ex} {e : Exit} {K : Act → World → Prop} {Q : Exit → Act → World → Prop} {a : Act} {w : World} (hx : x ≠ .normal) (he : exR E x e) (h : Q e a w) : Exit.then K Q e a w := by
 cases e with
 | normal => cases x <;> first | exact absurd rfl hx | exact False.elim he
 | _ => exact h
theorem zIv (hrec : ∀ t s, TOK P g0 t s (rec t s)) {nt : Nat} {rd : Option Nat} {ops : Array Oper} {id : Nat} {s s' : Fs} {x : Ex} (hr : evOps P g0 rec nt rd ops (List.range ops.size) s = .code x s') : CodeOK P g0 nt rd (.region id ops false) s x s' := by
 obtain ⟨h1, h2⟩ := evOps_ok hrec _ _ _ _ hr
 exact ⟨h1, fun E0 w0 E a w hf hfree => wpIn_region (h2 E0 w0 E a w _ hf hfree (fun _ _ _ h => h))⟩
theorem zNc (hrec : ∀ t s, TOK P g0 t s (rec t s)) {nt : Nat} {rd : Option Nat} {c : Code} {s s' : Fs} {x : Ex} (hr : zQh rec nt rd c s = .code x s') : LoopOK P g0 nt rd c s x s' := by
 unfold zQh at hr
 have h1 := hrec (.code nt rd c) s
 cases hs : rec (.code nt rd c) s with
 | bad m tr => simp [hs] at hr
 | ret _ _ _ _ => simp [hs] at hr
 | pan _ _ _ _ => simp [hs] at hr
 | code x1 s1 =>
  rw [hs] at h1
  obtain ⟨⟨g1, g1'⟩, w1⟩ := h1
  by_cases hx1 : x1 = .normal
  ·subst hx1
   simp only [hs] at hr
   have h2 := hrec (.loop nt rd c) s1
   rw [hr] at h2
   obtain ⟨⟨g2, g2'⟩, w2⟩ := h2
   refine ⟨⟨g1.trans g2 g2', fun k hk => g2' k (g1' k hk)⟩, fun E0 w0 E a w hf hfree => zBk (wpIn_mono (w1 E0 w0 E a w hf (hfree.left g2.le)) ?_)⟩
   rintro e a1 w1' ⟨E1, hx, ht, hf1, he⟩
   cases zFa he
   have := w2 E0 w0 E1 a1 w1' hf1 (hfree.right ht g1.le)
   rw [hf.next hx] at this
   intro b k cs q1 q2 q3
   obtain ⟨e, a', w', hq, harr⟩ := this b k cs q1 q2 q3
   exact ⟨e, a', w', CPost.trans hx ht g1.le g2.le hq, harr⟩
  ·have hr' : Res.code x1 s1 = .code x s' := by rw [hs] at hr; cases x1 <;> first | exact absurd rfl hx1 | exact hr
   simp only [Res.code.injEq] at hr'
   obtain ⟨rfl, rfl⟩ := hr'
   refine ⟨⟨g1, g1'⟩, fun E0 w0 E a w hf hfree => zBk (wpIn_mono (w1 E0 w0 E a w hf hfree) ?_)⟩
   rintro e a1 w1' hp
   obtain ⟨E1, hx, ht, hf1, he⟩ := id hp
   exact zMp hx1 he hp
theorem Stp.trans' {A B C : Env} {W V X : List Nat} {w w1 w2 : World} (h : Stp A B W w w1) (k : Stp B C V w1 w2) (hx : ∀ y, y ∈ V ∨ y ∈ W → y ∈ X) : Stp A C X w w2 :=
 (h.trans k).sub (fun y hy _ => hx y (by simpa using hy))
theorem zHt (hrec : ∀ t s, TOK P g0 t s (rec t s)) {nt : Nat} {rd : Option Nat} {params : Array Tmp} {assign body : Code} {f : FuncId} {first cap : List Value} {s s' : Fs} {d : Nat} {H1 : Tr AObj} {n1 : Nat} {df1 : List ADf} {x : Ex}
  (hr : zGe rec nt rd params assign body f first cap s d H1 n1 df1 = .code x s') :
  (Grw n1 s'.n H1 s'.H s'.wr ∧ ∀ k ∈ s.wr, k ∈ s'.wr) ∧
  ∀ (E0 : Env) (w0 : World) (E : Env) (a : Act) (w : World) (E1 : Env) (w1 : World) (mark : List Deferred) (first' cap' : Array Value) (fn : FuncId), FRm P g0 E0 w0 E nt rd s a w → Free E s.n s'.n →
   s.n ≤ n1 → Low n1 H1 → Ext E E1 → Took E E1 s.n n1 → HR P E1 H1.get w1 → Stp E E1 [] w w1 → E1.dom d → DR E1 df1 (mark ++ a.defers) → VL E1 first first'.toList → VL E1 cap cap'.toList →
   CallsIn (rdF E rd) (0 - 1) P f (first' ++ #[.func (.yield w1.heap.size) #[] #[]] ++ cap') (w1.alloc (.loop { state := .ready, pending := none, fn, tmps := a.tmps, params, assign, body, defers := E1.ρ d }))
    (rangePost (rdF E rd) 0 P w1.heap.size (CPost P g0 E0 w0 E nt rd s.n x s') { a with defers := mark ++ a.defers }) := by
 unfold zGe at hr
 obtain ⟨H2, hH2⟩ : ∃ H2, H1.set n1 (some (.loop { state := .ready, pend := none, T := s.T, nt, params, assign, body, defs := d })) = H2 := ⟨_, rfl⟩
 rw [hH2] at hr
 have ht := hrec (.call f (first ++ [.func (.yield n1) #[] #[]] ++ cap)) ⟨.e, H2, n1 + 1, [], []⟩
 generalize rec (.call f (first ++ [.func (.yield n1) #[] #[]] ++ cap)) ⟨.e, H2, n1 + 1, [], []⟩ = RR at hr ht
 cases RR with
 | bad m tr => simp at hr
 | code _ _ => simp at hr
 | pan _ _ _ _ => simp at hr
 | ret v H n wr =>
  obtain ⟨hg, hcall⟩ := ht
  have hg : Grw (n1 + 1) n H2 H wr := hg
  simp only [] at hr
  rcases hl : H.get n1 with _ | ob
  ·simp [hl] at hr
  cases ob with
  | loop r =>
   simp only [hl] at hr
   obtain ⟨s1, hs1⟩ : ∃ s1 : Fs, (⟨s.T, H.set n1 (some (.loop { r with state := .exhausted })), n, n1 :: (wr ++ s.wr), df1⟩ : Fs) = s1 := ⟨_, rfl⟩
   rw [hs1] at hr
   have hnb : r.state ≠ .busy := fun e => by simp [e] at hr
   have hr2 : (match r.pend with | none => Res.code .normal s1 | some j => rec (.code nt rd j) s1) = .code x s' := by
    cases hst : r.state <;> rw [hst] at hr <;> first | exact hr | simp at hr
   have hs1n : s1.n = n := by rw [← hs1]
   have hs1w : s1.wr = n1 :: (wr ++ s.wr) := by rw [← hs1]
   have g1 : Grw n1 n H1 s1.H s1.wr := by
    refine ⟨by have := hg.le; omega, fun k hk hkw => ?_, fun h0 => ?_⟩
    ·rw [hs1w] at hkw; simp at hkw
     rw [← hs1]
     show (H.set n1 _).get k = _
     rw [Tr.get_set_ne _ _ hkw.1, hg.same k (by omega) hkw.2.1, ← hH2, Tr.get_set_ne _ _ hkw.1]
    ·have l1 := hg.low (by rw [← hH2]; exact h0.new _)
     rw [← hs1]
     exact l1.set (l1.lt (by rw [hl]; simp)) _
   have hgrw : Grw n1 s'.n H1 s'.H s'.wr ∧ (∀ k ∈ s.wr, k ∈ s'.wr) ∧ n ≤ s'.n := by
    cases hp : r.pend with
    | none =>
     simp only [hp, Res.code.injEq] at hr2
     obtain ⟨rfl, rfl⟩ := hr2
     exact ⟨by rw [hs1n]; exact g1, fun k hk => by rw [hs1w]; simp [hk], Nat.le_of_eq hs1n.symm⟩
    | some j =>
     simp only [hp] at hr2
     have h3 := hrec (.code nt rd j) s1
     rw [hr2] at h3
     obtain ⟨⟨g3, g3'⟩, _⟩ := h3
     rw [hs1n] at g3
     exact ⟨g1.trans g3 g3', fun k hk => g3' k (by rw [hs1w]; simp [hk]), g3.le⟩
   refine ⟨⟨hgrw.1, hgrw.2.1⟩, ?_⟩
   intro E0 w0 E a w E1 w1 mark first' cap' fn hf hfree hn1 hlow1 hx1 ht1 hH1 hst1 hd hdf hvf hvc
   have hns : n ≤ s'.n := hgrw.2.2
   have hn1' : n1 + 1 ≤ n := hg.le
   have hfr1 : Free E1 n1 s'.n := hfree.right ht1 hn1
   have hnd : ¬ E1.dom n1 := hfr1 n1 (Nat.le_refl _) (by omega)
   have hor : OR P (E1.push n1 w1.heap.size 0 0) (w1.alloc (.loop { state := .ready, pending := none, fn, tmps := a.tmps, params, assign, body, defers := E1.ρ d })) n1 (.loop { state := .ready, pend := none, T := s.T, nt, params, assign, body, defs := d }) := by
    refine ⟨a.tmps, fn, ?_, (hf.tr.ext hx1).ext (Env.push_ext hnd _ _ _), .inr hd⟩
    rw [Env.push_ρ, (Env.push_ext hnd w1.heap.size 0 0).ρ d hd]
    exact heap_alloc_new w1 _
   obtain ⟨k1, k2⟩ := hH1.new hnd _ _ 0 0 hor
   have hx2 : Ext E (E1.push n1 w1.heap.size 0 0) := hx1.trans k2.ext
   have hy : VR (E1.push n1 w1.heap.size 0 0) (.func (.yield n1) #[] #[]) (.func (.yield w1.heap.size) #[] #[]) := by
    have := VR.yield (E := E1.push n1 w1.heap.size 0 0) n1 (Env.push_dom _ _ _ _ _)
    rwa [Env.push_ρ] at this
   have hva : VL (E1.push n1 w1.heap.size 0 0) (first ++ [Value.func (.yield n1) #[] #[]] ++ cap) (first' ++ #[Value.func (.yield w1.heap.size) #[] #[]] ++ cap').toList := by
    simp only [Array.toList_append]
    exact ((hvf.ext k2.ext).append (.cons _ _ _ _ hy .nil)).append (hvc.ext k2.ext)
   have hgl : ∀ (E' : Env), Ext E E' → ∀ g, g < g0 → E'.dom g ∧ E'.ρ g = g ∧ E'.sh g = 0 := fun E' hx g hg => ⟨hx.n g (hf.gl g hg).1, by rw [hx.ρ g (hf.gl g hg).1, hx.sh g (hf.gl g hg).1]; exact (hf.gl g hg).2⟩
   have ht2 : Took E1 (E1.push n1 w1.heap.size 0 0) n1 (n1 + 1) := dom1
   refine zKo ((hcall _ _ _ (hgl _ hx2) hva (by rw [← hH2, zCg]; exact k1) (by rw [← hH2]; exact hlow1.new _) ((hfr1.right ht2 (by omega)).left hns)).mono fun e w3 he => ?_)
   obtain ⟨E3, v', rfl, hv, hx3, ht3, hH3, hst3⟩ := he
   have ht3 : Took (E1.push n1 w1.heap.size 0 0) E3 (n1 + 1) n := ht3
   obtain ⟨R, q1, q2, q3, q4, q5, q6, q7, q8, q9, m1, m2⟩ := zIg hH3 hl .exhausted r.pend
   have hρ : E3.ρ n1 = w1.heap.size := by rw [hx3.ρ n1 (Env.push_dom _ _ _ _ _), Env.push_ρ]
   rw [hρ] at q1 m1 m2
   have hrun : (Instr.endLoop w1.heap.size).run P w3 = .ok r.pend (w3.putObj w1.heap.size (.loop { R with state := .exhausted, pending := r.pend })) := by
    rw [run_endLoop (P := P) q1 (by rw [q2]; exact hnb), ← q3]
   refine ⟨r.pend, _, hrun, ?_⟩
   have hxE3 : Ext E E3 := hx2.trans hx3
   have htE3 : Took E E3 s.n n := (ht1.trans ht2 hn1 (by omega)).trans ht3 (by omega) hn1'
   have hf3 : FRm P g0 E0 w0 E3 nt rd s1 { a with defers := mark ++ a.defers } (w3.putObj w1.heap.size (.loop { R with state := .exhausted, pending := r.pend })) := by
    have hlow3 := g1.low hlow1
    rw [← hs1] at hlow3 ⊢
    refine ⟨hf.tr.ext hxE3, by rw [zCg]; exact m1, hlow3, ?_, (hdf.ext (k2.ext.trans hx3)), hgl _ hxE3, fun l hl => hxE3.n l (hf.rd l hl)⟩
    exact (((hf.stp.trans hst1).trans k2).trans hst3).trans' m2 (fun y hy => by simp at hy ⊢; rcases hy with h | h | h <;> simp [h])
   cases hp : r.pend with
   | none =>
    rw [hp] at hf3
    simp only [hp, Res.code.injEq] at hr2
    obtain ⟨rfl, rfl⟩ := hr2
    exact ⟨E3, hxE3, by rw [hs1n]; exact htE3, hf3, trivial⟩
   | some j =>
    rw [hp] at hf3
    simp only [hp] at hr2
    have h3 := hrec (.code nt rd j) s1
    rw [hr2] at h3
    obtain ⟨⟨g3, _⟩, w3'⟩ := h3
    have := w3' E0 w0 E3 _ _ hf3 (by rw [hs1n]; exact hfree.right htE3 (by omega))
    rw [hf.next hxE3] at this
    exact wpIn_mono this (fun e a' w' hq => CPost.trans hxE3 (by rw [hs1n]; exact htE3) (by omega) g3.le hq)
  | _ => simp [hl] at hr
theorem zRe {E : Env} {rd : Option Nat} {g : Operand} {params : Array Tmp} {assign body : Code} {Q : Exit → Act → World → Prop} {a : Act} {w W : World} {fn l : Nat} {mark : List Deferred} {d : Deferred} {f : FuncId} {args : Array Value}
  (h1 : (Instr.enterLoop fn a.tmps params assign body (rdF E rd).round).run P w = .ok (l, mark) W) (h2 : (resolve a.eval (rangeCall g l) 0).run P W = .ok d W) (h3 : (invoke d.target d.args).run P W = .ok (.enter f args) W)
  (h4 : CallsIn (rdF E rd) (0 - 1) P f args W (rangePost (rdF E rd) 0 P l Q { a with defers := mark ++ a.defers })) :
  ∃ (l : Nat) (mark : List Deferred) (w₁ : World) (d : Deferred) (w₁' : World) (f : FuncId) (args : Array Value) (w₂ : World),
   (Instr.enterLoop fn a.tmps params assign body (rdF E rd).round).run P w = .ok (l, mark) w₁ ∧
   (resolve a.eval (rangeCall g l) 0).run P w₁ = .ok d w₁' ∧
   (∀ f', Target.leads P w₁' d.target d.args = some f' → (rdF E rd).fn f') ∧
   (invoke d.target d.args).run P w₁' = .ok (.enter f args) w₂ ∧
   ((rdF E rd).depth.isSome = true → 1 ≤ 0) ∧
   CallsIn (rdF E rd) (0 - 1) P f args w₂ (rangePost (rdF E rd) 0 P l Q { a with defers := mark ++ a.defers }) :=
 ⟨l, mark, W, d, W, f, args, W, h1, h2, fun f' _ => zKw E rd f', h3, (fun h => by rw [zJo] at h; cases h), h4⟩
theorem zRz (hrec : ∀ t s, TOK P g0 t s (rec t s)) {nt : Nat} {rd : Option Nat} {g : Operand} {params : Array Tmp} {assign body : Code} {s s' : Fs} {x : Ex} (hr : zBj P g0 rec nt rd (.rangeFunc g params assign body) s = .code x s') :
  CodeOK P g0 nt rd (.rangeFunc g params assign body) s x s' := by
 simp only [zBj] at hr
 cases hok : okX g0 g with
 | false => simp [hok] at hr
 | true =>
  simp only [hok, cond_true] at hr
  split at hr
  ·rename_i f first cap hev
   cases hca : callable P f with
   | false => simp [hca] at hr
   | true =>
    simp only [hca, cond_true] at hr
    obtain ⟨_, _, _, _, hrun⟩ := zDl hca
    have hfun : ∀ {E : Env} {a : Act}, TR E s.T nt a.tmps → (∀ g, g < g0 → E.dom g ∧ E.ρ g = g ∧ E.sh g = 0) → ∃ first' cap', a.eval g = .func (.func f) first' cap' ∧ VL E first.toList first'.toList ∧ VL E cap.toList cap'.toList := by
     intro E a hT hgl
     have hvg := zBg hT hgl hok
     rw [hev] at hvg
     cases hv' : a.eval g <;> rw [hv'] at hvg <;> cases hvg
     exact ⟨_, _, rfl, ‹_›, ‹_›⟩
    cases rd with
    | none =>
     simp only [] at hr
     obtain ⟨⟨g1, g1'⟩, hgo⟩ := zHt hrec hr
     refine ⟨⟨⟨by have := g1.le; omega, fun k hk hkw => ?_, fun h0 => g1.low (h0.new _)⟩, g1'⟩, fun E0 w0 E a w hf hfree => wpIn_rangeFunc fun fn _ => ?_⟩
     ·rw [g1.same k (by omega) hkw, Tr.get_set_ne _ _ (by omega)]
     ·obtain ⟨first', cap', he, hv1, hv2⟩ := hfun hf.tr hf.gl
      have hconst : ∀ v, a.eval (.const v) = v := fun _ => rfl
      have hnd : ¬ E.dom s.n := hfree s.n (Nat.le_refl _) (by have := g1.le; omega)
      obtain ⟨k1, k2⟩ := hf.hr.new hnd (.deferred (some [])) .defs 0 0 (by show _ = _; rw [Env.push_ρ]; exact heap_alloc_new w _)
      have hx := Env.push_ext hnd w.heap.size 0 0
      have := hgo E0 w0 E a w _ _ [{ target := .collected w.heap.size, args := #[] }] first' cap' fn hf hfree (by omega) (hf.lw.new _) hx dom1 (by rw [zCg]; exact k1) k2 (Env.push_dom _ _ _ _ _) ?_ (hv1.ext hx) (hv2.ext hx)
      ·rw [Env.push_ρ, World.size_alloc] at this
       obtain ⟨W, hW⟩ : ∃ W, (w.alloc (.deferred (some []))).alloc (.loop { state := .ready, pending := none, fn, tmps := a.tmps, params, assign, body, defers := w.heap.size }) = W := ⟨_, rfl⟩
       have hent := run_enterLoop_outer (P := P) (w := w) fn a.tmps params assign body
       rw [hW] at hent this
       exact zRe (d := { target := .fn (.func f) cap', args := first' ++ #[.func (.yield (w.heap.size + 1)) #[] #[]] }) hent (by simp [resolve, he, hconst, Deferred.ofValue]) (by simp [invoke, hrun]) this
      ·have := DR.mark (E := E.push s.n w.heap.size 0 0) s.n s.df a.defers (Env.push_dom _ _ _ _ _) (hf.df.ext hx)
       rw [Env.push_ρ] at this
       exact this
    | some l =>
     simp only [] at hr
     rcases hl : s.H.get l with _ | ob
     ·simp [hl] at hr
     cases ob with
     | loop r =>
      simp only [hl] at hr
      obtain ⟨⟨g1, g1'⟩, hgo⟩ := zHt hrec hr
      refine ⟨⟨g1, g1'⟩, fun E0 w0 E a w hf hfree => wpIn_rangeFunc fun fn _ => ?_⟩
      obtain ⟨first', cap', he, hv1, hv2⟩ := hfun hf.tr hf.gl
      have hconst : ∀ v, a.eval (.const v) = v := fun _ => rfl
      obtain ⟨tm, fn0, q1, q2, q3⟩ := hf.hr.obj l _ hl
      have := hgo E0 w0 E a w E w [] first' cap' fn hf hfree (Nat.le_refl _) hf.lw (.refl E) (.refl E _) hf.hr (.refl E w) q3 hf.df hv1 hv2
      obtain ⟨W, hW⟩ : ∃ W, w.alloc (.loop { state := .ready, pending := none, fn, tmps := a.tmps, params, assign, body, defers := E.ρ r.defs }) = W := ⟨_, rfl⟩
      have hent := run_enterLoop_inner (P := P) q1 fn a.tmps params assign body
      rw [hW] at this
      have hent : (Instr.enterLoop fn a.tmps params assign body (rdF E (some l)).round).run P w = .ok (w.heap.size, []) W := by rw [← hW]; exact hent
      exact zRe (d := { target := .fn (.func f) cap', args := first' ++ #[.func (.yield w.heap.size) #[] #[]] }) hent (by simp [resolve, he, hconst, Deferred.ofValue]) (by simp [invoke, hrun]) this
     | _ => simp [hl] at hr
  ·simp at hr
end
end Go.Proofs.Ytpdeidlkeplegaa
namespace Go.Proofs.Ytpdeidlkeplegaa
open Go.RowKit
section
variable {P : Program} {g0 : Nat} {rec : Task → Fs → Res}
theorem HR.kill {E : Env} {G : Gh} {w w' : World} (h : HR P E G w) {id : Nat} {o : AObj} (hg : G id = some o) (hw : w'.os = w.os ∧ w'.tape = w.tape ∧ w'.output = w.output ∧ w'.heap.size = w.heap.size)
  (hb : ∀ b, b ≠ E.ρ id → w'.heap[b]? = w.heap[b]?) (hno : ¬ o.isWin := by exact fun x => x) : HR P E (gset G id none) w' ∧ Stp E E [id] w w' := by
 have hl := h.live (id := id) (by rw [hg]; simp)
 have hnr : ¬ E.ro id := fun x => hno (h.ro id o hg x)
 have key : ∀ k x, gset G id none k = some x → k ≠ id ∧ G k = some x := fun k x hx => by
  have hx : (if k = id then none else G k) = some x := hx
  by_cases he : k = id
  ·rw [if_pos he] at hx; cases hx
  ·rw [if_neg he] at hx; exact ⟨he, hx⟩
 have key2 : ∀ k, gset G id none k ≠ none → k ≠ id ∧ G k ≠ none := fun k hk => by
  cases hx : gset G id none k with
  | none => exact absurd hx hk
  | some x => exact ⟨(key k x hx).1, by rw [(key k x hx).2]; simp⟩
 refine ⟨⟨fun k hk => by rw [hw.2.2.2]; exact h.lt k hk, fun k hk => ?_, fun k x hx => ?_, fun i j hi hj hro e => h.inj i j (key2 i hi).2 (key2 j hj).2 hro e, fun k x hx hr => h.ro k x (key k x hx).2 hr, fun c ob hf => by rw [hb c (fun e => by rw [e, h.fn id (by rw [hg]; simp) hnr] at hf; cases hf)]; exact h.fz c ob hf, fun k hk => h.fn k (key2 k hk).2, by rw [hw.2.2.2]; exact h.pos⟩,
  ⟨.refl E, hw.1, hw.2.1, hw.2.2.1, Nat.le_of_eq hw.2.2.2.symm, fun b _ hx => hb b (fun e => hx id (by simp) hl hnr e.symm), fun k h1 h2 => absurd h2 h1, fun _ _ h => .inl h⟩⟩
 ·show (if _ then _ else _) = none
  split
  ·rfl
  ·exact h.dom k hk
 ·obtain ⟨h1, h2⟩ := key k x hx
  exact (h.obj k x h2).mono (.refl E) (h.live (by rw [h2]; simp)) (hb _ (fun e => h1 (h.inj k id (by rw [h2]; simp) (by rw [hg]; simp) (.inr hnr) e)))
theorem zEz (hrec : ∀ t s, TOK P g0 t s (rec t s)) {fn : Func} {tmps : Array Value} {R : Ending → World → Prop} : ∀ (df : List ADf) (u : Option (List (Value × Bool))) (H : Tr AObj) (n : Nat) (wr : List Nat) (U : Option (List (Value × Bool))) (H' : Tr AObj) (n' : Nat) (wr' : List Nat), evOut P rec df u H n wr = .ok U H' n' wr' →
  (Grw n n' H H' wr' ∧ ∀ k ∈ wr, k ∈ wr') ∧ ∀ (ds : List Deferred) (u' : FrameMode) (E0 : Env) (w0 : World) (E : Env) (w : World), DR E df ds → UR E u u' → HR P E H.get w → Low n H → Stp E0 E wr w0 w → (∀ g, g < g0 → E.dom g ∧ E.ρ g = g ∧ E.sh g = 0) → Free E n n' →
   (∀ E' U' w', Ext E E' → Took E E' n n' → UR E' U U' → HR P E' H'.get w' → Stp E0 E' wr' w0 w' → LeavesIn Fence.wide 0 P fn tmps R [] U' w') → LeavesInM Fence.wide 0 P fn tmps R ds u' w
 | [], u, H, n, wr, U, H', n', wr', h => by
  simp only [evOut, OutR.ok.injEq] at h
  obtain ⟨rfl, rfl, rfl, rfl⟩ := h
  refine ⟨⟨.refl _ _ _, fun k hk => hk⟩, fun ds u' E0 w0 E w hd hu hH hl hs hg hf hgo => ?_⟩
  cases hd
  exact hgo E u' w (.refl E) (.refl E _) hu hH hs
 | .mark d :: df, u, H, n, wr, U, H', n', wr', h => by
  simp only [evOut] at h
  rcases hg : H.get d with _ | ob
  ·simp [hg] at h
  cases ob with
  | defs =>
   simp only [hg] at h
   obtain ⟨⟨g1, g2⟩, hw⟩ := zEz hrec (fn := fn) (tmps := tmps) (R := R) df u _ n _ U H' n' wr' h
   refine ⟨⟨⟨g1.le, fun k hk hkw => ?_, fun h0 => g1.low (h0.set (h0.lt (by rw [hg]; simp)) _)⟩, fun k hk => g2 k (by simp [hk])⟩, fun ds u' E0 w0 E w hd hu hH hl hs hgl hf hgo => ?_⟩
   ·rw [g1.same k hk hkw, Tr.get_set_ne]; intro e; exact hkw (g2 k (by simp [e]))
   ·cases hd
    rename_i l' hdm ht
    have hb : w.heap[E.ρ d]? = some (.deferred (some [])) := hH.obj d _ hg
    obtain ⟨k1, k2⟩ := hH.kill (w' := w.putObj (E.ρ d) (.deferred none)) hg ⟨rfl, rfl, rfl, by simp⟩ (fun b hb => World.putObj_heap_other hb)
    exact ⟨hu.ne, .inl ⟨E.ρ d, _, rfl, run_takeDeferred hb, hw l' u' E0 w0 E _ ht hu (by rw [zCg]; exact k1) (hl.set (hl.lt (by rw [hg]; simp)) _) (hs.trans k2) hgl hf hgo⟩⟩
  | _ => simp [hg] at h
 | .call f cap args :: df, u, H, n, wr, U, H', n', wr', h => by
  simp only [evOut] at h
  cases hca : callable P f with
  | false => simp [hca] at h
  | true =>
   simp only [hca, cond_true] at h
   have key : ∀ (r : Res) (H1 : Tr AObj) (n1 : Nat) (wr1 : List Nat), (∃ v, r = .ret v H1 n1 wr1) ∨ (∃ ch, r = .pan ch H1 n1 wr1) → DcallOK P g0 f (args ++ cap) u H n r → evOut P rec df (zMi r) H1 n1 (wr1 ++ wr) = .ok U H' n' wr' →
     (Grw n n' H H' wr' ∧ ∀ k ∈ wr, k ∈ wr') ∧ ∀ (ds : List Deferred) (u' : FrameMode) (E0 : Env) (w0 : World) (E : Env) (w : World), DR E (.call f cap args :: df) ds → UR E u u' → HR P E H.get w → Low n H → Stp E0 E wr w0 w → (∀ g, g < g0 → E.dom g ∧ E.ρ g = g ∧ E.sh g = 0) → Free E n n' →
      (∀ E' U' w', Ext E E' → Took E E' n n' → UR E' U U' → HR P E' H'.get w' → Stp E0 E' wr' w0 w' → LeavesIn Fence.wide 0 P fn tmps R [] U' w') → LeavesInM Fence.wide 0 P fn tmps R ds u' w := by
    intro r H1 n1 wr1 hr hD h
    obtain ⟨⟨g1, g2⟩, hw⟩ := zEz hrec (fn := fn) (tmps := tmps) (R := R) df _ H1 n1 (wr1 ++ wr) U H' n' wr' h
    have hgr : Grw n n1 H H1 wr1 := by rcases hr with ⟨v, rfl⟩ | ⟨ch, rfl⟩ <;> exact hD.1
    have hen : endN r n = n1 := by rcases hr with ⟨v, rfl⟩ | ⟨ch, rfl⟩ <;> rfl
    have hde : ∀ E w e u w', DEnd P E n w r e u w' → e ≠ .outgrown ∧ ∃ E', UR E' (zMi r) (zHd e u) ∧ Ext E E' ∧ Took E E' n n1 ∧ HR P E' H1.get w' ∧ Stp E E' wr1 w w' := by rcases hr with ⟨v, rfl⟩ | ⟨ch, rfl⟩ <;> exact fun _ _ _ _ _ h => h
    have hgr' : Grw n n1 H H1 (wr1 ++ wr) := ⟨hgr.le, fun k hk hkw => hgr.same k hk (fun h => hkw (by simp [h])), hgr.low⟩
    refine ⟨⟨hgr'.trans g1 g2, fun k hk => g2 k (by simp [hk])⟩, fun ds u' E0 w0 E w hd hu hH hl hs hgl hf hgo => ?_⟩
    cases hd
    rename_i cap' args' l' hc ha ht
    refine ⟨hu.ne, .inr ⟨(fun h => by cases h), .func f, cap', f, args' ++ cap', rfl, ?_, fun _ _ => trivial, ?_⟩⟩
    ·obtain ⟨_, _, _, _, hrun⟩ := zDl hca
     simp [invoke, hrun]
    ·rw [← hen] at hgr
     refine (hD.2 E w (args' ++ cap') u' hgl (by simp only [Array.toList_append]; exact ha.append hc) hu hH hl (by rw [hen]; exact hf.left g1.le)).mono fun e u'' w' he => ?_
     rw [hen] at hgr
     obtain ⟨hne, E1, q1, q2, q3, q4, q5⟩ := hde _ _ _ _ _ he
     have hrest := hw l' (zHd e u'') E0 w0 E1 w' (ht.ext q2) q1 q4 (hgr.low hl) (hs.trans q5) (fun g hg => ⟨q2.n g (hgl g hg).1, by rw [q2.ρ g (hgl g hg).1, q2.sh g (hgl g hg).1]; exact (hgl g hg).2⟩) (hf.right q3 hgr.le) (fun E' U' w'' r1 r2 r3 r4 r5 => hgo E' U' w'' (q2.trans r1) (q3.trans r2 hgr.le g1.le) r3 r4 r5)
     cases e with
     | returned v => exact hrest
     | panicked ch => exact hrest
     | outgrown => exact absurd rfl hne
   have ht := hrec (.dcall f (args ++ cap) u) ⟨.e, H, n, [], []⟩
   cases hr : rec (.dcall f (args ++ cap) u) ⟨.e, H, n, [], []⟩ with
   | bad m tr => simp [hr] at h
   | code x s => simp [hr] at h
   | ret v H1 n1 wr1 =>
    rw [hr] at h ht
    exact key (.ret v H1 n1 wr1) H1 n1 wr1 (.inl ⟨v, rfl⟩) ht h
   | pan ch H1 n1 wr1 =>
    rw [hr] at h ht
    exact key (.pan ch H1 n1 wr1) H1 n1 wr1 (.inr ⟨ch, rfl⟩) ht h
theorem zSg {E : Env} {G : Gh} {w : World} (h : HR P E G w) {t : TypeId} {v u v' : Value} {us : List (Nat × Option AObj)} {k : Nat} (hl : zKc P t v G = .val u us k) (hv : VR E v v') : ∃ a u', v' = .pointer (some a) ∧ (loadVar t a).run P w = .ok u' w ∧ VR E u u' := by
 unfold zKc at hl
 split at hl
 ·rename_i b off
  obtain ⟨hb, rfl⟩ := hv.ptr_inv
  rcases hg0 : (G b).bind AObj.look with _ | c
  ·simp [hg0] at hl
  obtain ⟨ob, hg, hlk⟩ := Option.bind_eq_some_iff.1 hg0
  simp only [hg0] at hl
  have hor := h.obj b _ hg
  cases ha : aggT P t with
  | none => simp [ha] at hl
  | some ag =>
   cases ag with
   | false =>
    simp only [ha] at hl
    cases hc : c[off]? with
    | none => simp [hc] at hl
    | some u0 =>
     simp [hc] at hl
     obtain ⟨rfl, _, _⟩ := hl
     obtain ⟨v', h1, h3⟩ := hor.look_at hlk off u0 hc
     exact ⟨_, v', rfl, by simp [loadVar, zBn ha, zDw h1, -run_load], h3⟩
   | true =>
    simp only [ha] at hl
    cases hi : P.info? t with
    | none => simp [hi] at hl
    | some i =>
     simp only [hi] at hl
     cases hbl : (off + i.size).ble c.length with
     | false => simp [hbl] at hl
     | true =>
      simp only [hbl, cond_true, ORes.val.injEq] at hl
      obtain ⟨rfl, _, _⟩ := hl
      have hb' : off + i.size ≤ c.length := Nat.le_of_ble_eq_true hbl
      obtain ⟨l, hlen, hsub, hcl⟩ := hor.look_sub hlk hb'
      refine ⟨_, .agg l.toArray, rfl, ?_, .agg _ _ (by simpa using hsub)⟩
      have hl := run_loadCells_list (P := P) w ⟨E.ρ b, E.sh b + off, none⟩ l (fun j u hj => by
       rw [zAi]; exact hcl j u hj)
      rw [hlen] at hl
      simp [loadVar, zBn ha, sizeOf, typeInfo, hi, hl]
 ·rename_i z p m f cs
  obtain ⟨b, off, y, hev, h1, h2⟩ := hv.ref_inv
  simp only [] at h1 h2
  subst hev
  cases ha : aggT P t with
  | none => simp [ha] at hl
  | some ag =>
   cases ag with
   | false =>
    simp only [ha] at hl
    cases cs with
    | nil => simp at hl
    | cons u0 us0 =>
     simp only [ORes.val.injEq] at hl
     obtain ⟨rfl, _, _⟩ := hl
     have hc := h.fzc (h1 0 (by simp))
     rw [Nat.add_zero] at hc
     exact ⟨_, y 0, rfl, by simp [loadVar, zBn ha, zDw hc, -run_load], (h2 0 u0 rfl).vr⟩
   | true =>
    simp only [ha] at hl
    cases hi : P.info? t with
    | none => simp [hi] at hl
    | some i =>
     simp only [hi] at hl
     cases hbl : i.size.ble cs.length with
     | false => simp [hbl] at hl
     | true =>
      simp only [hbl, cond_true, ORes.val.injEq] at hl
      obtain ⟨rfl, _, _⟩ := hl
      have hb' : i.size ≤ cs.length := Nat.le_of_ble_eq_true hbl
      obtain ⟨l, hlen, hsub, hcl⟩ := zOr (m := 0) (k := i.size) h1 h2 (by omega)
      rw [List.drop_zero] at hsub
      refine ⟨_, .agg l.toArray, rfl, ?_, .agg _ _ (by simpa using hsub)⟩
      have hl := run_loadCells_list (P := P) w ⟨b, off, none⟩ l (fun j u hj => by
       rw [zAi]
       have := h.fzc (hcl j u hj)
       rwa [Nat.add_zero] at this)
      rw [hlen] at hl
      simp [loadVar, zBn ha, sizeOf, typeInfo, hi, hl]
 ·cases hl
def resVar (tmps : Array Value) : ResultVar → Sem Value
 | .tmp t => pure (tmps.getD t undef)
 | .cell a t => do loadVar t (← asAddr (tmps.getD a undef))
theorem zCc {E : Env} {s : Fs} {nt : Nat} {tmps : Array Value} {w : World} (hT : TR E s.T nt tmps) (hH : HR P E s.H.get w) : ∀ (l : List ResultVar) (vs : List Value), zAo P s l = some vs → ∃ vs', VL E vs vs' ∧ (l.mapM (resVar tmps)).run P w = .ok vs' w
 | [], vs, h => by simp [zAo] at h; subst h; exact ⟨[], .nil, by simp⟩
 | .tmp t :: l, vs, h => by
  simp only [zAo, Option.map_eq_some_iff] at h
  obtain ⟨r, hr, rfl⟩ := h
  obtain ⟨r', h1, h2⟩ := zCc hT hH l r hr
  exact ⟨tmps.getD t undef :: r', .cons _ _ _ _ (hT.2 t) h1, by simp only [List.mapM_cons, resVar, Sem.run_bind, Sem.run_pure, Result.andThen_ok, h2]⟩
 | .cell a t :: l, vs, h => by
  simp only [zAo] at h
  split at h
  ·rename_i v hl
   simp only [Option.map_eq_some_iff] at h
   obtain ⟨r, hr, rfl⟩ := h
   obtain ⟨r', h1, h2⟩ := zCc hT hH l r hr
   obtain ⟨ad, u', he, hrun, hv⟩ := zSg hH hl (hT.2 a)
   refine ⟨u' :: r', .cons _ _ _ _ hv h1, ?_⟩
   simp only [List.mapM_cons, resVar, he, asAddr, Sem.run_bind, Sem.run_pure, Result.andThen_ok, hrun, h2]
  ·cases h
theorem zDv {fn : Func} {tmps : Array Value} {w : World} {vs' : List Value} (h : (fn.results.toList.mapM (resVar tmps)).run P w = .ok vs' w) : (results fn tmps).run P w = .ok (tupleOf vs') w := by
 have e : results fn tmps = (do let vs ← fn.results.mapM (resVar tmps); pure (if h : vs.size = 1 then vs[0] else .tuple vs)) := by
  rfl
 rw [e, Array.mapM_eq_mapM_toList]
 simp only [Sem.run_bind, Sem.run_map, h, Result.andThen_ok, Sem.run_pure]
 congr 1
 unfold tupleOf
 match vs' with
 | [] => rfl
 | [v] => rfl
 | a :: b :: l => simp
theorem zJz {E : Env} {vs vs' : List Value} (h : VL E vs vs') : VR E (tupleOf vs) (tupleOf vs') := by
 unfold tupleOf
 match vs, vs', h with
 | [], _, .nil => exact .tuple _ _ .nil
 | [v], _, .cons _ v' _ _ hv .nil => exact hv
 | a :: b :: l, _, .cons _ a' _ _ ha (.cons _ b' _ l' hb ht) => exact .tuple _ _ (.cons _ _ _ _ ha (.cons _ _ _ _ hb ht))
theorem zLd : ∀ (l : List Value) (k : Nat) (T : Tr Value) (t : Nat), (tmpsOf l k T).get t = if k ≤ t ∧ t < k + l.length then l[t - k]? else T.get t
 | [], k, T, t => by simp only [tmpsOf]; rw [if_neg (by simp)]
 | v :: l, k, T, t => by
  rw [tmpsOf, zLd l]
  simp only [List.length_cons]
  by_cases h1 : t = k
  ·subst h1
   rw [if_neg (by omega), Tr.get_set_self, if_pos (by omega)]; simp
  ·by_cases h2 : k + 1 ≤ t ∧ t < k + 1 + l.length
   ·rw [if_pos h2, if_pos (by omega)]
    rw [show t - k = (t - (k + 1)) + 1 by omega]; simp
   ·rw [if_neg h2, Tr.get_set_ne _ _ h1, if_neg (by omega)]
theorem zMq {E : Env} {args : List Value} {args' : Array Value} (hv : VL E args args'.toList) (m : Nat) : TR E (tmpsOf args 0 .e) (args.length + (m - args.length)) (args' ++ Array.replicate (m - args'.size) undef) := by
 have hl : args.length = args'.size := by have := hv.length; simpa using this
 refine ⟨by simp [hl], fun t => ?_⟩
 rw [zLd, Array.getD_eq_getD_getElem?]
 by_cases ht : t < args.length
 ·rw [if_pos ⟨Nat.zero_le _, by omega⟩, Nat.sub_zero]
  obtain ⟨v', h1, h2⟩ := hv.at t args[t] (List.getElem?_eq_getElem ht)
  rw [List.getElem?_eq_getElem ht, Array.getElem?_append_left (by omega)]
  have : args'[t]? = some v' := by simpa using h1
  rw [this]; exact h2
 ·rw [if_neg (by omega), Tr.get_e, Array.getElem?_append_right (by omega)]
  have : ((Array.replicate (m - args'.size) undef)[t - args'.size]?).getD undef = undef := by
   rw [Array.getElem?_replicate]; split <;> rfl
  simp only [this]; exact VR.undef
theorem zFe {E : Env} {x : Ex} {u : Option (List (Value × Bool))} (hm : modeOf x = some u) {e : Exit} (he : exR E x e) : ((e = .normal ∨ e = .ret) ∧ u = none) ∨ ∃ ch ch', e = .panic ch' ∧ u = some ch ∧ x = .pan ch ∧ CR E ch ch' := by
 cases x with
 | normal => cases e <;> first | exact False.elim he | skip
             simp [modeOf] at hm; exact .inl ⟨.inl rfl, hm.symm⟩
 | ret => cases e <;> first | exact False.elim he | skip
          simp [modeOf] at hm; exact .inl ⟨.inr rfl, hm.symm⟩
 | pan ch => cases e <;> first | exact False.elim he | skip
             simp [modeOf] at hm; exact .inr ⟨ch, _, rfl, hm.symm, rfl, he⟩
 | exit id => simp [modeOf] at hm
 | goto l => simp [modeOf] at hm
theorem zLw (hrec : ∀ t s, TOK P g0 t s (rec t s)) {f : FuncId} {args : List Value} {H : Tr AObj} {n : Nat} {r : Res} (hr : evFn P rec f args H n = r) (hgood : ∀ m tr, r ≠ .bad m tr) : CallOK P g0 f args H n r := by
 unfold evFn at hr
 cases hf : P.funcs[f]? with
 | none => rw [hf] at hr; exact absurd hr.symm (hgood _ _)
 | some fn =>
  simp only [hf] at hr
  cases hb : fn.body with
  | none => rw [hb] at hr; exact absurd hr.symm (hgood _ _)
  | some c =>
   simp only [hb] at hr
   have hc := hrec (.code (args.length + (fn.ntmps - args.length)) none c) ⟨tmpsOf args 0 .e, H, n, [], []⟩
   generalize rec (.code (args.length + (fn.ntmps - args.length)) none c) ⟨tmpsOf args 0 .e, H, n, [], []⟩ = RR at hr hc
   cases RR with
   | bad m tr => exact absurd hr.symm (hgood _ _)
   | ret _ _ _ _ => exact absurd hr.symm (hgood _ _)
   | pan _ _ _ _ => exact absurd hr.symm (hgood _ _)
   | code x s =>
    obtain ⟨⟨g1, g1'⟩, hw⟩ := hc
    have g1 : Grw n s.n H s.H s.wr := g1
    simp only [] at hr
    cases hmode : modeOf x with
    | none => rw [hmode] at hr; exact absurd hr.symm (hgood _ _)
    | some u =>
     simp only [hmode] at hr
     cases ho : evOut P rec s.df u s.H s.n s.wr with
     | bad m tr => rw [ho] at hr; exact absurd hr.symm (hgood _ _)
     | ok U H' n' wr' =>
      simp only [ho] at hr
      obtain ⟨⟨g2, g2'⟩, _⟩ := zEz hrec (fn := fn) (tmps := #[]) (R := fun _ _ => True) _ _ _ _ _ _ _ _ _ ho
      have g3 : Grw n n' H H' wr' := g1.trans g2 g2'
      have walk : ∀ (r : Res), endGrw n H r → endN r n = n' →
        (∀ (E E' : Env) (w w' : World) (U' : FrameMode) (a : Act), UR E' U U' → TR E' s.T (args.length + (fn.ntmps - args.length)) a.tmps → Ext E E' → Took E E' n n' → HR P E' H'.get w' → Stp E E' wr' w w' → Free E n n' → LeavesIn Fence.wide 0 P fn a.tmps (CallEnd P E n w r) [] U' w') → CallOK P g0 f args H n r := by
       intro r hg hn hgo
       refine ⟨hg, fun E w args' hgl hva hH hlow hfree => ?_⟩
       rw [hn] at hfree
       refine callsIn_of_wp_marks hf hb trivial ?_
       have hfr : FRm P g0 E w E (args.length + (fn.ntmps - args.length)) none ⟨tmpsOf args 0 .e, H, n, [], []⟩ { tmps := args' ++ Array.replicate (fn.ntmps - args'.size) undef, defers := [] } w :=
        ⟨zMq hva _, hH, hlow, .refl E w, .nil, hgl, fun l e => by cases e⟩
       refine wpIn_mono (hw E w E _ w hfr (hfree.left g2.le)) ?_
       rintro e a' w' ⟨E', hxt, htk, hf', hex⟩
       have out : ∀ u', UR E' u u' → LeavesInM Fence.wide 0 P fn a'.tmps (CallEnd P E n w r) a'.defers u' w' := fun u' hu =>
        (zEz hrec (fn := fn) (tmps := a'.tmps) (R := CallEnd P E n w r) _ _ _ _ _ _ _ _ _ ho).2 a'.defers u' E w E' w' hf'.df hu hf'.hr hf'.lw hf'.stp hf'.gl (hfree.right htk g1.le)
         (fun E2 U' w'' r1 r2 r3 r4 r5 => hgo E E2 w w'' U' a' r3 (hf'.tr.ext r1) (hxt.trans r1) (htk.trans r2 g1.le g2.le) r4 r5 hfree)
       rcases zFe hmode hex with ⟨rfl | rfl, rfl⟩ | ⟨ch, ch', rfl, rfl, rfl, hch⟩
       ·exact out .returning .none
       ·exact out .returning .none
       ·exact out (.panicking ch') (.some _ _ hch)
      cases U with
      | none =>
       simp only [] at hr
       cases hv : zAo P { s with H := H' } fn.results.toList with
       | none => rw [hv] at hr; exact absurd hr.symm (hgood _ _)
       | some vs =>
        rw [hv] at hr
        simp only [] at hr
        subst hr
        refine walk _ g3.own rfl (fun E E' w w' U' a hu hT hxt htk hH hs hfree => ?_)
        cases hu
        obtain ⟨vs', h1, h2⟩ := zCc (s := { s with H := H' }) hT hH _ _ hv
        exact ⟨_, zDv h2, E', _, rfl, zJz h1, hxt, htk, hH, hs.own hfree⟩
      | some ch =>
       simp only [] at hr
       subst hr
       refine walk _ g3.own rfl (fun E E' w w' U' a hu hT hxt htk hH hs hfree => ?_)
       cases hu
       rename_i ch' hch
       exact ⟨E', ch', rfl, hch, hxt, htk, hH, hs.own hfree⟩
theorem zFg {F : Fence} {n : Nat} {c : Code} {Q Q' : Exit → Act → List Frame → World → Prop} {a : Act} {cs : List Frame} {w : World} (h : c.wpSIn F n P Q a cs w) (hq : ∀ e a cs w, Q e a cs w → Q' e a cs w) : c.wpSIn F n P Q' a cs w :=
 fun b k h1 h2 h3 h4 => let ⟨e, a', cs', w', l, q, r⟩ := h b k h1 h2 h3 h4; ⟨e, a', cs', w', l, hq _ _ _ _ q, r⟩
def SPost (P : Program) (g0 : Nat) (E0 : Env) (w0 : World) (E : Env) (nt n : Nat) (x : Ex) (U : Option (List (Value × Bool))) (s1 : Fs) (c₀ : Frame) (cs : List Frame) : Exit → Act → List Frame → World → Prop := fun e a' cs' w' =>
 ∃ E' U', Ext E E' ∧ Took E E' n s1.n ∧ FRm P g0 E0 w0 E' nt none s1 a' w' ∧ exR E' x e ∧ UR E' U U' ∧ cs' = { c₀ with mode := U' } :: cs
def SOK (P : Program) (g0 nt : Nat) (c : Code) (u : Option (List (Value × Bool))) (s : Fs) (x : Ex) (U : Option (List (Value × Bool))) (s1 : Fs) : Prop :=
 (Grw s.n s1.n s.H s1.H s1.wr ∧ ∀ k ∈ s.wr, k ∈ s1.wr) ∧ ∀ (E0 : Env) (w0 : World) (E : Env) (a : Act) (w : World) (c₀ : Frame) (cs : List Frame), FRm P g0 E0 w0 E nt none s a w → Free E s.n s1.n → UR E u c₀.mode →
  c.wpSIn Fence.wide 0 P (SPost P g0 E0 w0 E nt s.n x U s1 c₀ cs) a (c₀ :: cs) w
theorem zQi (hrec : ∀ t s, TOK P g0 t s (rec t s)) {nt : Nat} {c : Code} {u : Option (List (Value × Bool))} {s : Fs} {x : Ex} {U : Option (List (Value × Bool))} {s1 : Fs}
  (h : leafS rec nt c u s = .ok x U s1) : SOK P g0 nt c u s x U s1 := by
 unfold leafS at h
 have ht := hrec (.code nt none c) s
 cases hr : rec (.code nt none c) s with
 | bad m tr => simp [hr] at h
 | ret _ _ _ _ => simp [hr] at h
 | pan _ _ _ _ => simp [hr] at h
 | code x' s' =>
  rw [hr] at h ht
  simp only [SR.ok.injEq] at h
  obtain ⟨rfl, rfl, rfl⟩ := h
  obtain ⟨hg, hw⟩ := ht
  refine ⟨hg, fun E0 w0 E a w c₀ cs hf hfree hu => wpSIn_of_wpIn rfl (wpIn_mono (hw E0 w0 E a w hf hfree) ?_)⟩
  rintro e a' w' ⟨E', h1, h2, h3, h4⟩
  exact ⟨E', c₀.mode, h1, h2, h3, h4, hu.ext h1, rfl⟩
theorem zGf {w : World} {evc : Operand → Value} {o : Oper} (h : zCz o = true) : (execOp evc o).run P w = .ok .recover w := by
 unfold zCz at h
 split at h
 ·rename_i c ho
  split at h
  ·rename_i hc
   simp [execOp, ho, resolve, hc, invoke]
   rfl
  ·cases h
 ·cases h
theorem zHv {E : Env} {u : Option (List (Value × Bool))} {c₀ : Frame} {cs : List Frame} (hu : UR E u c₀.mode) :
  (∀ v u', recA u = some (v, u') → ∃ v' m, recoverD (c₀ :: cs) = some (v', { c₀ with mode := m } :: cs) ∧ VR E v v' ∧ UR E u' m) ∧ (recA u = none → recoverD (c₀ :: cs) = none) := by
 simp only [recoverD]
 generalize c₀.mode = m at hu
 cases hu with
 | none => exact ⟨fun v u' h => by simp [recA] at h, fun _ => rfl⟩
 | some ch ch' h =>
  cases h with
  | nil => exact ⟨fun v u' h => by simp [recA] at h, fun _ => rfl⟩
  | cons v b p l l' hv hb hg t =>
   obtain ⟨pv, pr, pg⟩ := p
   simp only at hv hb hg
   subst hb hg
   cases pr with
   | true => exact ⟨fun v u' h => by simp [recA] at h, fun _ => rfl⟩
   | false =>
    refine ⟨fun v2 u' h => ?_, fun h => by simp [recA] at h⟩
    simp only [recA, Option.some.injEq, Prod.mk.injEq] at h
    obtain ⟨rfl, rfl⟩ := h
    exact ⟨pv, _, rfl, hv, .some _ _ (.cons _ _ _ _ _ hv rfl rfl t)⟩
theorem evOpsS_ok {nt : Nat} {ops : Array Oper} : ∀ (l : List Nat) (u : Option (List (Value × Bool))) (s : Fs) (x : Ex) (U : Option (List (Value × Bool))) (s1 : Fs), zGc P g0 nt ops l u s = .ok x U s1 →
  (Grw s.n s1.n s.H s1.H s1.wr ∧ ∀ k ∈ s.wr, k ∈ s1.wr) ∧ ∀ (E0 : Env) (w0 : World) (E : Env) (a : Act) (w : World) (c₀ : Frame) (cs : List Frame) (Q : Exit → Act → List Frame → World → Prop), FRm P g0 E0 w0 E nt none s a w → Free E s.n s1.n → UR E u c₀.mode →
   (∀ e a' cs' w', SPost P g0 E0 w0 E nt s.n x U s1 c₀ cs e a' cs' w' → Q e a' cs' w') → wpOpsSIn Fence.wide 0 P ops Q l a (c₀ :: cs) w := by
 intro l
 induction l with
 | nil =>
  intro u s x U s1 h
  simp only [zGc, SR.ok.injEq] at h
  obtain ⟨rfl, rfl, rfl⟩ := h
  exact ⟨⟨.refl _ _ _, fun k hk => hk⟩, fun E0 w0 E a w c₀ cs Q hf hfree hu hQ => hQ _ _ _ _ ⟨E, c₀.mode, .refl E, .refl E _, hf, trivial, hu, rfl⟩⟩
 | cons i l ih =>
  intro u s x U s1 h
  simp only [zGc] at h
  cases ho : ops[i]? with
  | none =>
   simp only [ho] at h
   obtain ⟨h1, h2⟩ := ih u s x U s1 h
   refine ⟨h1, fun E0 w0 E a w c₀ cs Q hf hfree hu hQ => ?_⟩
   simp only [wpOpsSIn, ho]; exact h2 E0 w0 E a w c₀ cs Q hf hfree hu hQ
  | some o =>
   simp only [ho] at h
   cases hg : guardOk ops s.T o with
   | false =>
    simp only [hg, cond_false] at h
    cases hp : putT nt s.T o.dst undef with
    | none => simp [hp] at h
    | some T' =>
     simp only [hp] at h
     obtain ⟨h1, h2⟩ := ih _ _ x U s1 h
     refine ⟨h1, fun E0 w0 E a w c₀ cs Q hf hfree hu hQ => ?_⟩
     simp only [wpOpsSIn, ho]
     rw [if_neg (by rw [zCq hf.tr ops o, hg]; simp)]
     exact ⟨fun f _ => trivial, h2 E0 w0 E (a.put o.dst undef) w c₀ cs Q ⟨hf.tr.put VR.undef hp, hf.hr, hf.lw, hf.stp, by rw [zAm]; exact hf.df, hf.gl, hf.rd⟩ hfree hu hQ⟩
   | true =>
    simp only [hg, cond_true] at h
    cases hrc : zCz o with
    | true =>
     simp only [hrc, cond_true] at h
     cases hra : recA u with
     | none =>
      simp only [hra] at h
      cases hp : putT nt s.T o.dst .nilIface with
      | none => simp [hp] at h
      | some T' =>
       simp only [hp] at h
       obtain ⟨h1, h2⟩ := ih _ _ x U s1 h
       refine ⟨h1, fun E0 w0 E a w c₀ cs Q hf hfree hu hQ => ?_⟩
       simp only [wpOpsSIn, ho]
       rw [if_pos (by rw [zCq hf.tr ops o, hg]), zGf hrc]
       simp only [(zHv (cs := cs) hu).2 hra]
       exact ⟨fun f _ => trivial, h2 E0 w0 E (a.put o.dst .nilIface) w c₀ cs Q ⟨hf.tr.put .inil hp, hf.hr, hf.lw, hf.stp, by rw [zAm]; exact hf.df, hf.gl, hf.rd⟩ hfree hu hQ⟩
     | some vu =>
      obtain ⟨v, u'⟩ := vu
      simp only [hra] at h
      cases hp : putT nt s.T o.dst v with
      | none => simp [hp] at h
      | some T' =>
       simp only [hp] at h
       obtain ⟨h1, h2⟩ := ih _ _ x U s1 h
       refine ⟨h1, fun E0 w0 E a w c₀ cs Q hf hfree hu hQ => ?_⟩
       simp only [wpOpsSIn, ho]
       rw [if_pos (by rw [zCq hf.tr ops o, hg]), zGf hrc]
       obtain ⟨v', m, q1, q2, q3⟩ := (zHv (cs := cs) hu).1 v u' hra
       simp only [q1]
       exact ⟨fun f _ => trivial, h2 E0 w0 E (a.put o.dst v') w { c₀ with mode := m } cs Q ⟨hf.tr.put q2 hp, hf.hr, hf.lw, hf.stp, by rw [zAm]; exact hf.df, hf.gl, hf.rd⟩ hfree q3 hQ⟩
    | false =>
     simp only [hrc, cond_false] at h
     cases hok : (okOps g0 o && !(zBp o) && (zCd o).isNone) with
     | false => simp [hok] at h
     | true =>
      simp only [hok, cond_true] at h
      simp only [Bool.and_eq_true] at hok
      have hopx : ∀ x ∈ o.op.operands, okX g0 x = true := fun x hx => List.all_eq_true.1 hok.1.1 x (by simpa using hx)
      cases ha : aop P o (aev s.T) s.H.get s.n with
      | bad m => simp [ha] at h
      | pan v =>
       simp only [ha, SR.ok.injEq] at h
       obtain ⟨rfl, rfl, rfl⟩ := h
       refine ⟨⟨Grw.refl _ _ _, fun k hk => hk⟩, fun E0 w0 E a w c₀ cs Q hf hfree hu hQ => ?_⟩
       have hs := zKl (n := s.n) hf.hr (o := o) (fun x hx => zBg hf.tr hf.gl (hopx x hx))
       rw [ha] at hs
       obtain ⟨v', w1, hrun, hv, hw⟩ := hs
       simp only [wpOpsSIn, ho]
       rw [if_pos (by rw [zCq hf.tr ops o, hg]), hrun]
       refine ⟨fun f _ => trivial, hQ _ _ _ _ ⟨E, c₀.mode, .refl E, .refl E _, ?_, .cons _ _ _ _ _ hv rfl rfl .nil, hu, rfl⟩⟩
       rcases hw with rfl | rfl
       ·exact hf
       ·exact ⟨hf.tr, hf.hr.drew, hf.lw, hf.stp.drew _, hf.df, hf.gl, hf.rd⟩
      | val v us k =>
       simp only [ha] at h
       cases hky : keysOk s.n k us s.H.get with
       | false => simp [hky] at h
       | true =>
       simp only [hky, cond_true] at h
       cases hp : putT nt s.T o.dst v with
       | none => simp [hp] at h
       | some T' =>
        simp only [hp] at h
        obtain ⟨⟨g2, g2'⟩, h2⟩ := ih _ _ x U s1 h
        have g1 : Grw s.n (s.n + k) s.H (applyUs s.H us) (us.map (·.1) ++ s.wr) := ⟨Nat.le_add_right _ _, fun k hk hkw => by
         rw [zBh]; exact zFr _ _ _ (fun h => hkw (by simp only [List.mem_append]; exact .inl h)), fun h0 => zDa h0 (zEn hky (fun j hj => h0.lt hj))⟩
        refine ⟨⟨g1.trans g2 g2', fun k hk => g2' k (by simp only [List.mem_append]; exact .inr hk)⟩, fun E0 w0 E a w c₀ cs Q hf hfree hu hQ => ?_⟩
        have hs := zKl (n := s.n) hf.hr (o := o) (fun x hx => zBg hf.tr hf.gl (hopx x hx))
        rw [ha] at hs
        obtain ⟨nx, w', E1, hrun, hnx, hdom, hH, hst, _⟩ := hs (fun hk => hfree s.n (Nat.le_refl _) (by have hq : s.n + k ≤ s1.n := g2.le; show _ < s1.n; omega))
        simp only [wpOpsSIn, ho]
        rw [if_pos (by rw [zCq hf.tr ops o, hg]), hrun]
        have hx := hst.ext
        have fin : ∀ v', VR E1 v v' → wpOpsSIn Fence.wide 0 P ops Q l (a.put o.dst v') (c₀ :: cs) w' := fun v' hv => h2 E0 w0 E1 (a.put o.dst v') w' c₀ cs Q
         ⟨(hf.tr.ext hx).put hv hp, by show HR P E1 (applyUs s.H us).get w'; rw [zBh]; exact hH, zDa hf.lw (zEn hky (fun j hj => hf.lw.lt hj)), hf.stp.trans hst, by rw [zAm]; exact hf.df.ext hx, fun g hg => ⟨hx.n g (hf.gl g hg).1, by rw [hx.ρ g (hf.gl g hg).1, hx.sh g (hf.gl g hg).1]; exact (hf.gl g hg).2⟩, fun l hl => hx.n l (hf.rd l hl)⟩
         (hfree.right hdom (Nat.le_add_right _ _)) (hu.ext hx) (fun e a' cs' w'' ⟨E2, U', r1, r2, r3, r4, r5, r6⟩ => hQ _ _ _ _ ⟨E2, U', hx.trans r1, Took.trans hdom r2 (Nat.le_add_right _ _) g2.le, r3, r4, r5, r6⟩)
        rcases hnx with ⟨v', rfl, hv⟩ | ⟨rfl, rfl⟩
        ·exact ⟨fun f _ => trivial, fin v' hv⟩
        ·exact ⟨fun f _ => trivial, fin undef VR.undef⟩
theorem evS_ok (hrec : ∀ t s, TOK P g0 t s (rec t s)) {nt : Nat} : ∀ (c : Code) (u : Option (List (Value × Bool))) (s : Fs) (x : Ex) (U : Option (List (Value × Bool))) (s1 : Fs), evS P g0 rec nt c u s = .ok x U s1 → SOK P g0 nt c u s x U s1 := by
 intro c
 induction c with
 | seq A B iha ihb =>
  intro u s x U s2 h
  simp only [evS] at h
  cases ha : evS P g0 rec nt A u s with
  | bad m tr => simp [ha] at h
  | ok x1 u1 s1 =>
   obtain ⟨⟨ga, ga'⟩, hwa⟩ := iha u s x1 u1 s1 ha
   have rest : x1 ≠ .normal → SR.ok x1 u1 s1 = .ok x U s2 → SOK P g0 nt (.seq A B) u s x U s2 := by
    intro hx1 h
    simp only [SR.ok.injEq] at h
    obtain ⟨rfl, rfl, rfl⟩ := h
    refine ⟨⟨ga, ga'⟩, fun E0 w0 E a w c₀ cs hf hfree hu => wpSIn_seq (zFg (hwa E0 w0 E a w c₀ cs hf hfree hu) ?_)⟩
    rintro e a' cs' w' ⟨E1, U1, r1, r2, r3, r4, r5, r6⟩
    cases e <;> first | exact ⟨E1, U1, r1, r2, r3, r4, r5, r6⟩ | skip
    cases x1 <;> first | exact False.elim r4 | exact absurd rfl hx1
   cases x1 with
   | normal =>
    simp only [ha] at h
    obtain ⟨⟨gb, gb'⟩, hwb⟩ := ihb u1 s1 x U s2 h
    refine ⟨⟨ga.trans gb gb', fun k hk => gb' k (ga' k hk)⟩, fun E0 w0 E a w c₀ cs hf hfree hu => wpSIn_seq (zFg (hwa E0 w0 E a w c₀ cs hf (hfree.left gb.le) hu) ?_)⟩
    rintro e a' cs' w' ⟨E1, U1, r1, r2, r3, r4, r5, rfl⟩
    cases e <;> first | exact False.elim r4 | skip
    refine zFg (hwb E0 w0 E1 a' w' { c₀ with mode := U1 } cs r3 (hfree.right r2 ga.le) r5) ?_
    rintro e2 a2 cs2 w2 ⟨E2, U2, q1, q2, q3, q4, q5, rfl⟩
    exact ⟨E2, U2, r1.trans q1, r2.trans q2 ga.le gb.le, q3, q4, q5, rfl⟩
   | exit id => simp only [ha] at h; exact rest (by simp) h
   | goto l => simp only [ha] at h; exact rest (by simp) h
   | ret => simp only [ha] at h; exact rest (by simp) h
   | pan ch => simp only [ha] at h; exact rest (by simp) h
 | region id ops d =>
  intro u s x U s1 h
  simp only [evS] at h
  cases hc : (ops.toList.any zCz && !d) with
  | true =>
   simp only [hc, cond_true] at h
   simp only [Bool.and_eq_true, Bool.not_eq_true'] at hc
   obtain ⟨_, rfl⟩ := hc
   obtain ⟨h1, h2⟩ := evOpsS_ok _ _ _ _ _ _ h
   exact ⟨h1, fun E0 w0 E a w c₀ cs hf hfree hu => wpSIn_region (h2 E0 w0 E a w c₀ cs _ hf hfree hu (fun _ _ _ _ h => h))⟩
  | false =>
   simp only [hc, cond_false] at h
   exact zQi hrec h
 | _ =>
  intro u s x U s1 h
  exact zQi hrec (by simpa only [evS] using h)
theorem zSp {E : Env} {u : Option (List (Value × Bool))} {m : FrameMode} (h : UR E u m) : UR E (settleA u) (settle m) := by
 cases h with
 | none => exact .none
 | some ch ch' h =>
  cases h with
  | nil => exact .some _ _ .nil
  | cons v b p l l' hv hb hg t =>
   have hall : ∀ {l : List (Value × Bool)} {l' : List PanicEntry}, CR E l l' → l'.dropWhile (!·.goexit) = [] := by
    intro l l' h
    induction h with
    | nil => rfl
    | cons v b p l l' hv hb hg t ih => simp [List.dropWhile, hg, ih]
   obtain ⟨pv, pr, pg⟩ := p
   simp only at hv hb hg
   subst hb hg
   cases pr with
   | true => simp only [settle, settleA, hall t]; exact .none
   | false => exact .some _ _ (.cons _ _ _ _ _ hv rfl rfl t)
theorem CR.append {E : Env} {a b : List (Value × Bool)} {a' b' : List PanicEntry} (h : CR E a a') (k : CR E b b') : CR E (a ++ b) (a' ++ b') := by
 induction h with
 | nil => exact k
 | cons v b p l l' hv hb hg t ih => exact .cons _ _ _ _ _ hv hb hg ih
theorem zSl {E : Env} {u : Option (List (Value × Bool))} {m : FrameMode} (h : UR E u m) {ch : List (Value × Bool)} {ch' : List PanicEntry} (hc : CR E ch ch') : UR E (some (raisedA u ch)) (raised m ch') := by
 cases h with
 | none => exact .some _ _ hc
 | some o o' h => exact .some _ _ (hc.append h)
theorem zKq (hrec : ∀ t s, TOK P g0 t s (rec t s)) {f : FuncId} {args : List Value} {u : Option (List (Value × Bool))} {H : Tr AObj} {n : Nat} {r : Res} (hr : zOt P g0 rec f args u H n = r) (hgood : ∀ m tr, r ≠ .bad m tr) : DcallOK P g0 f args u H n r := by
 unfold zOt at hr
 cases hf : P.funcs[f]? with
 | none => rw [hf] at hr; exact absurd hr.symm (hgood _ _)
 | some fn =>
  simp only [hf] at hr
  cases hb : fn.body with
  | none => rw [hb] at hr; exact absurd hr.symm (hgood _ _)
  | some c =>
   simp only [hb] at hr
   cases hs : evS P g0 rec (args.length + (fn.ntmps - args.length)) c u ⟨tmpsOf args 0 .e, H, n, [], []⟩ with
   | bad m tr => rw [hs] at hr; exact absurd hr.symm (hgood _ _)
   | ok x U s =>
    simp only [hs] at hr
    cases hdf : s.df with
    | cons d l => rw [hdf] at hr; exact absurd hr.symm (hgood _ _)
    | nil =>
     simp only [hdf] at hr
     obtain ⟨⟨g1, g1'⟩, hw⟩ := evS_ok hrec _ _ _ _ _ _ hs
     have g1 : Grw n s.n H s.H s.wr := g1
     cases hmode : modeOf x with
     | none => rw [hmode] at hr; exact absurd hr.symm (hgood _ _)
     | some u1 =>
      simp only [hmode] at hr
      have walk : ∀ (r : Res), endGrw n H r → endN r n = s.n →
        (∀ (E E' : Env) (w w' : World) (U' : FrameMode) (a : Act) (c₀ : Frame) (cs : List Frame) (e : Exit), UR E' U U' → exR E' x e → a.defers = [] → TR E' s.T (args.length + (fn.ntmps - args.length)) a.tmps → Ext E E' → Took E E' n s.n → HR P E' s.H.get w' → Stp E E' s.wr w w' → Free E n s.n → bodyPostS P fn c₀ cs (DEnd P E n w r) e a ({ c₀ with mode := U' } :: cs) w') → DcallOK P g0 f args u H n r := by
       intro r hg hn hgo
       refine ⟨hg, fun E w args' u' hgl hva hu hH hlow hfree => ?_⟩
       rw [hn] at hfree
       refine callsDIn_of_wpSIn hf hb trivial fun c₀ cs hm => ?_
       have hfr : FRm P g0 E w E (args.length + (fn.ntmps - args.length)) none ⟨tmpsOf args 0 .e, H, n, [], []⟩ { tmps := args' ++ Array.replicate (fn.ntmps - args'.size) undef, defers := [] } w :=
        ⟨zMq hva _, hH, hlow, .refl E w, .nil, hgl, fun l e => by cases e⟩
       refine zFg (hw E w E _ w c₀ cs hfr hfree (hm ▸ hu)) ?_
       rintro e a' cs' w' ⟨E', U', hxt, htk, hf', hex, hU, rfl⟩
       have hde : a'.defers = [] := by have hd := hf'.df; rw [hdf] at hd; generalize a'.defers = dd at hd; cases hd; rfl
       exact hgo E E' w w' U' a' c₀ cs e hU hex hde hf'.tr hxt htk hf'.hr hf'.stp hfree
      cases u1 with
      | none =>
       simp only [] at hr
       cases hv : zAo P s fn.results.toList with
       | none => rw [hv] at hr; exact absurd hr.symm (hgood _ _)
       | some vs =>
        rw [hv] at hr
        simp only [] at hr
        have fin : ∀ (r : Res), (r = .ret undef s.H s.n (own n s.n s.wr) ∨ ∃ ch, r = .pan ch s.H s.n (own n s.n s.wr)) → zMi r = settleA U → DcallOK P g0 f args u H n r := by
         intro r hr hm
         refine walk r (by rcases hr with rfl | ⟨ch, rfl⟩ <;> exact g1.own) (by rcases hr with rfl | ⟨ch, rfl⟩ <;> rfl) (fun E E' w w' U' a c₀ cs e hU hex hde hT hxt htk hH hst hfree => ?_)
         obtain ⟨vs', h1, h2⟩ := zCc (s := s) hT hH _ _ hv
         have hend : DEnd P E n w r (.returned (tupleOf vs')) U' w' := by
          have hU' := zSp hU
          rw [← hm] at hU'
          rcases hr with rfl | ⟨ch, rfl⟩ <;> exact ⟨by simp, E', hU', hxt, htk, hH, hst.own hfree⟩
         rcases zFe hmode hex with ⟨rfl | rfl, _⟩ | ⟨ch, ch', rfl, h, _⟩
         ·exact ⟨hde, U', rfl, _, zDv h2, hend⟩
         ·exact ⟨hde, U', rfl, _, zDv h2, hend⟩
         ·cases h
        cases hse : settleA U with
        | none => rw [hse] at hr; simp only [] at hr; subst hr; exact fin _ (.inl rfl) (by rw [hse]; rfl)
        | some ch => rw [hse] at hr; simp only [] at hr; subst hr; exact fin _ (.inr ⟨ch, rfl⟩) (by rw [hse]; rfl)
      | some ch =>
       simp only [] at hr
       subst hr
       refine walk _ g1.own rfl (fun E E' w w' U' a c₀ cs e hU hex hde hT hxt htk hH hst hfree => ?_)
       rcases zFe hmode hex with ⟨_, h⟩ | ⟨ch2, ch', rfl, h, _, hch⟩
       ·cases h
       ·cases h
        exact ⟨hde, U', rfl, ⟨by simp, E', zSl hU hch, hxt, htk, hH, hst.own hfree⟩⟩
end
end Go.Proofs.Ytpdeidlkeplegaa
namespace Go.Proofs.Ytpdeidlkeplegaa
open Go.RowKit
theorem zIa (acc : List Nat) (i : Nat) : ∀ (es : List Edge) (s : Nat), Nat.testBit (es.foldl (fun s e => bif Region.binds .any e then s ||| 2 ^ e.on ||| acc.getD e.on 0 else s) s) i = true ↔ Nat.testBit s i = true ∨ ∃ e ∈ es, Region.binds .any e = true ∧ (e.on = i ∨ Nat.testBit (acc.getD e.on 0) i = true)
 | [], s => by simp
 | e :: es, s => by
  simp only [List.foldl_cons]
  rw [zIa acc i es]
  cases hb : Region.binds .any e with
  | false => simp [hb]
  | true =>
   simp only [cond_true, Nat.testBit_or, Bool.or_eq_true, Nat.testBit_two_pow, decide_eq_true_eq, List.mem_cons, exists_eq_or_imp, hb, true_and]
   constructor
   ·rintro (((h | h) | h) | h)
    ·exact .inl h
    ·exact .inr (.inl (.inl h))
    ·exact .inr (.inl (.inr h))
    ·exact .inr (.inr h)
   ·rintro (h | (h | h) | h)
    ·exact .inl (.inl (.inl h))
    ·exact .inl (.inl (.inr h))
    ·exact .inl (.inr h)
    ·exact .inr h
theorem zHf : ∀ (l : List Oper) (acc : List Nat) (k : Nat), k < acc.length → (preAll l acc)[k]? = acc[k]?
 | [], acc, k, h => rfl
 | o :: l, acc, k, h => by rw [preAll, zHf l _ k (by simp; omega), List.getElem?_append_left h]
theorem zNp : ∀ (l : List Oper) (acc : List Nat) (j : Nat) (o : Oper), l[j]? = some o → (preAll l acc)[acc.length + j]? = some (preOf ((preAll l acc).take (acc.length + j)) o.after.toList)
 | [], acc, j, o, h => by simp at h
 | o' :: l, acc, 0, o, h => by
  simp at h; subst h
  rw [preAll, zHf l _ _ (by simp), Nat.add_zero, List.getElem?_append_right (Nat.le_refl _)]
  simp only [Nat.sub_self, List.getElem?_cons_zero, Option.some.injEq]
  congr 1
  apply List.ext_getElem?
  intro k
  by_cases hk : k < acc.length
  ·rw [List.getElem?_take_of_lt hk, zHf l _ k (by simp; omega), List.getElem?_append_left hk]
  ·rw [List.getElem?_eq_none (by omega), List.getElem?_eq_none (by simp; omega)]
 | o' :: l, acc, j + 1, o, h => by
  simp at h
  have := zNp l (acc ++ [preOf acc o'.after.toList]) j o h
  simp only [List.length_append, List.length_cons, List.length_nil] at this
  rw [preAll, show acc.length + (j + 1) = acc.length + (0 + 1) + j by omega]
  exact this
def ahead (pre : List Nat) (j i : Nat) : Prop := Nat.testBit (pre.getD j 0) i = true
theorem zMt {ops : Array Oper} {j : Nat} {o : Oper} (ho : ops[j]? = some o) (i : Nat) : ahead (preAll ops.toList []) j i ↔ ∃ e ∈ o.after, Region.binds .any e = true ∧ (e.on = i ∨ (e.on < j ∧ ahead (preAll ops.toList []) e.on i)) := by
 have h := zNp ops.toList [] j o (by simpa using ho)
 simp only [List.length_nil, Nat.zero_add] at h
 unfold ahead
 rw [List.getD_eq_getElem?_getD, h]
 simp only [Option.getD_some, preOf]
 rw [zIa]
 simp only [Nat.zero_testBit, Bool.false_eq_true, false_or, Array.mem_toList_iff]
 constructor
 ·rintro ⟨e, he, hb, h | h⟩
  ·exact ⟨e, he, hb, .inl h⟩
  ·refine ⟨e, he, hb, .inr ?_⟩
   rw [List.getD_eq_getElem?_getD] at h ⊢
   by_cases hlt : e.on < j
   ·exact ⟨hlt, by rwa [List.getElem?_take_of_lt hlt] at h⟩
   ·rw [List.getElem?_eq_none (by simp; omega)] at h; simp at h
 ·rintro ⟨e, he, hb, h | ⟨hlt, h⟩⟩
  ·exact ⟨e, he, hb, .inl h⟩
  ·refine ⟨e, he, hb, .inr ?_⟩
   rw [List.getD_eq_getElem?_getD] at h ⊢
   rwa [List.getElem?_take_of_lt hlt]
theorem zHo {ops : Array Oper} {D : Nat → Prop} (hD : ∀ j o, ops[j]? = some o → D j → ∀ e ∈ o.after, Region.binds .any e = true → D e.on) : ∀ (j : Nat) (o : Oper), ops[j]? = some o → (∀ e ∈ o.after, Region.binds .any e = true → D e.on) → ∀ i, ahead (preAll ops.toList []) j i → D i := by
 intro j
 induction j using Nat.strongRecOn with
 | _ j ih =>
  intro o ho hed i hi
  obtain ⟨e, he, hb, rfl | ⟨hlt, h⟩⟩ := (zMt ho i).1 hi
  ·exact hed e he hb
  ·have hjs : j < ops.size := (Array.getElem?_eq_some_iff.1 ho).1
   have ho' : ops[e.on]? = some (ops[e.on]'(by omega)) := Array.getElem?_eq_getElem _
   exact ih e.on hlt _ ho' (hD _ _ ho' (hed e he hb)) i h
def dstOf (ops : Array Oper) (i : Nat) : Option Tmp := (ops[i]?).bind (·.dst)
open Classical in
noncomputable def TD (ops : Array Oper) (D : Nat → Prop) (f0 : Nat → Value) : List Rec → Nat → Value
 | [] => f0
 | r :: rs => fun t => if D r.i ∧ dstOf ops r.i = some t then r.v else TD ops D f0 rs t
open Classical in
noncomputable def GD (D : Nat → Prop) (G0 : Gh) : List Rec → Gh
 | [] => G0
 | r :: rs => fun k => if D r.i ∧ inK r k = true then r.Hout.get k else GD D G0 rs k
theorem zFu {ops : Array Oper} {D D' : Nat → Prop} {f0 : Nat → Value} {t : Nat} : ∀ {rs : List Rec}, (∀ r ∈ rs, dstOf ops r.i = some t → (D r.i ↔ D' r.i)) → TD ops D f0 rs t = TD ops D' f0 rs t
 | [], _ => rfl
 | r :: rs, h => by
  have ih := zFu (f0 := f0) (rs := rs) (fun r' hr' => h r' (by simp [hr']))
  simp only [TD, ih]
  by_cases hd : dstOf ops r.i = some t
  ·have := h r (by simp) hd
   by_cases h1 : D r.i
   ·rw [if_pos ⟨h1, hd⟩, if_pos ⟨this.1 h1, hd⟩]
   ·rw [if_neg (fun x => h1 x.1), if_neg (fun x => h1 (this.2 x.1))]
  ·rw [if_neg (fun x => hd x.2), if_neg (fun x => hd x.2)]
theorem zFt {D D' : Nat → Prop} {G0 : Gh} {k : Nat} : ∀ {rs : List Rec}, (∀ r ∈ rs, inK r k = true → (D r.i ↔ D' r.i)) → GD D G0 rs k = GD D' G0 rs k
 | [], _ => rfl
 | r :: rs, h => by
  have ih := zFt (G0 := G0) (rs := rs) (fun r' hr' => h r' (by simp [hr']))
  simp only [GD, ih]
  by_cases hd : inK r k = true
  ·have := h r (by simp) hd
   by_cases h1 : D r.i
   ·rw [if_pos ⟨h1, hd⟩, if_pos ⟨this.1 h1, hd⟩]
   ·rw [if_neg (fun x => h1 x.1), if_neg (fun x => h1 (this.2 x.1))]
  ·rw [if_neg (fun x => hd x.2), if_neg (fun x => hd x.2)]
theorem TD_hit {ops : Array Oper} {D : Nat → Prop} {f0 : Nat → Value} {t : Nat} {r : Rec} {B : List Rec} (hr : D r.i) (hd : dstOf ops r.i = some t) : ∀ {A : List Rec}, (∀ r' ∈ A, D r'.i → dstOf ops r'.i ≠ some t) → TD ops D f0 (A ++ r :: B) t = r.v
 | [], _ => by simp only [List.nil_append, TD]; rw [if_pos ⟨hr, hd⟩]
 | a :: A, h => by
  simp only [List.cons_append, TD]
  rw [if_neg (fun x => h a (by simp) x.1 x.2)]
  exact TD_hit hr hd (fun r' hr' => h r' (by simp [hr']))
theorem GD_hit {D : Nat → Prop} {G0 : Gh} {k : Nat} {r : Rec} {B : List Rec} (hr : D r.i) (hd : inK r k = true) : ∀ {A : List Rec}, (∀ r' ∈ A, D r'.i → inK r' k ≠ true) → GD D G0 (A ++ r :: B) k = r.Hout.get k
 | [], _ => by simp only [List.nil_append, GD]; rw [if_pos ⟨hr, hd⟩]
 | a :: A, h => by
  simp only [List.cons_append, GD]
  rw [if_neg (fun x => h a (by simp) x.1 x.2)]
  exact GD_hit hr hd (fun r' hr' => h r' (by simp [hr']))
theorem zOf {ops : Array Oper} {D : Nat → Prop} {f0 : Nat → Value} {t : Nat} {B : List Rec} : ∀ {A : List Rec}, (∀ r ∈ A, ¬ D r.i) → TD ops D f0 (A ++ B) t = TD ops D f0 B t
 | [], _ => rfl
 | a :: A, h => by simp only [List.cons_append, TD]; rw [if_neg (fun x => h a (by simp) x.1)]; exact zOf (fun r hr => h r (by simp [hr]))
theorem zOe {D : Nat → Prop} {G0 : Gh} {k : Nat} {B : List Rec} : ∀ {A : List Rec}, (∀ r ∈ A, ¬ D r.i) → GD D G0 (A ++ B) k = GD D G0 B k
 | [], _ => rfl
 | a :: A, h => by simp only [List.cons_append, GD]; rw [if_neg (fun x => h a (by simp) x.1)]; exact zOe (fun r hr => h r (by simp [hr]))
def rdKey (r : Rec) (k : Nat) : Prop := match r.ids with | some l => k ∈ l | none => r.Hin.get k ≠ none
theorem zIy (pre : List Nat) (i j : Nat) : freeOf pre i j = freeOf pre j i := by unfold freeOf; rw [Bool.and_comm]
theorem free_or {pre : List Nat} {i j : Nat} (h : freeOf pre i j ≠ true) : ahead pre i j ∨ ahead pre j i := by
 unfold freeOf at h
 unfold ahead
 cases h1 : Nat.testBit (pre.getD i 0) j
 ·cases h2 : Nat.testBit (pre.getD j 0) i
  ·rw [h1, h2] at h; exact absurd rfl h
  ·exact .inr rfl
 ·exact .inl rfl
theorem zCs : ∀ (n lo k : Nat), k ∈ seqL lo n ↔ lo ≤ k ∧ k < lo + n
 | 0, lo, k => by simp [seqL]
 | n + 1, lo, k => by
  simp only [seqL, List.mem_cons, zCs n (lo + 1) k]
  omega
theorem zBm {r : Rec} {k : Nat} : inK r k = true ↔ k ∈ r.W ∨ (r.lo ≤ k ∧ k < r.hi) := by
 unfold inK
 simp only [Bool.or_eq_true, Bool.and_eq_true, List.elem_eq_mem, decide_eq_true_eq]
 constructor
 ·rintro (h | ⟨h1, h2⟩)
  ·exact .inl h
  ·exact .inr ⟨Nat.le_of_ble_eq_true h1, by have := Nat.le_of_ble_eq_true h2; omega⟩
 ·rintro (h | ⟨h1, h2⟩)
  ·exact .inl h
  ·exact .inr ⟨Nat.ble_eq_true_of_le h1, Nat.ble_eq_true_of_le h2⟩
theorem zOn {r r' : Rec} (h : apartR r r' = true) {k : Nat} (hk : inK r k = true) : ¬ rdKey r' k := by
 unfold apartR at h
 unfold rdKey
 cases hi : r'.ids with
 | some l =>
  rw [hi] at h
  intro hl
  have := List.all_eq_true.1 h k hl
  rw [hk] at this; simp at this
 | none =>
  rw [hi] at h
  simp only [Bool.and_eq_true] at h
  intro hl
  rcases zBm.1 hk with hW | hr
  ·have := List.all_eq_true.1 h.1 k hW
   simp at this; exact hl this
  ·cases hi2 : r.ids with
   | none => rw [hi2] at h; simp at h
   | some l =>
    rw [hi2] at h
    have := List.all_eq_true.1 h.2 k ((zCs _ _ _).2 ⟨hr.1, by omega⟩)
    simp at this; exact hl this
theorem zIp {r r' : Rec} (h : apartW r r' = true) {k : Nat} (h1 : inK r k = true) (h2 : inK r' k = true) : False := by
 unfold apartW at h
 simp only [Bool.and_eq_true, Bool.or_eq_true] at h
 obtain ⟨⟨a, b⟩, c⟩ := h
 rcases zBm.1 h1 with hW | hr
 ·have := List.all_eq_true.1 a k hW; rw [h2] at this; simp at this
 ·rcases zBm.1 h2 with hW' | hr'
  ·have := List.all_eq_true.1 b k hW'; rw [h1] at this; simp at this
  ·rcases c with c | c
   ·have := Nat.le_of_ble_eq_true c; omega
   ·have := Nat.le_of_ble_eq_true c; omega
def Good (ops : Array Oper) (pre : List Nat) (n0 nt : Nat) (ok : Rec → List Rec → Prop) : List Rec → Prop
 | [] => True
 | r :: rs => ok r rs ∧ fits pre r rs = true ∧ (∀ r' ∈ rs, r'.i ≠ r.i) ∧ (∀ i, ahead pre r.i i → ∃ r' ∈ rs, r'.i = i) ∧ (∀ r' ∈ rs, r'.hi ≤ r.lo) ∧ n0 ≤ r.lo ∧ r.lo ≤ r.hi ∧ (∀ d, dstOf ops r.i = some d → d < nt) ∧ Good ops pre n0 nt ok rs
section
variable {ops : Array Oper} {pre : List Nat} {n0 nt : Nat} {ok : Rec → List Rec → Prop}
theorem Good.tail : ∀ {A B : List Rec}, Good ops pre n0 nt ok (A ++ B) → Good ops pre n0 nt ok B
 | [], _, h => h
 | _ :: A, _, h => Good.tail (A := A) h.2.2.2.2.2.2.2.2
theorem Good.apart : ∀ {A : List Rec} {r : Rec} {B : List Rec}, Good ops pre n0 nt ok (A ++ r :: B) → ∀ r' ∈ A ++ B, r'.i ≠ r.i ∧
  (freeOf pre r.i r'.i = true → (apartR r r' = true ∧ apartR r' r = true ∧ ∀ k, inK r k = true → inK r' k = true → False)) ∧ (r'.hi ≤ r.lo ∨ r.hi ≤ r'.lo) := by
 intro A
 induction A with
 | nil =>
  intro r B h r' hr'
  obtain ⟨_, hf, hd, _, hlo, _, _, _, _⟩ := h
  have hr' : r' ∈ B := by simpa using hr'
  refine ⟨hd r' hr', fun hfr => ?_, .inl (hlo r' hr')⟩
  have := List.all_eq_true.1 hf r' hr'
  simp only [hfr, Bool.not_true, Bool.false_or, Bool.and_eq_true] at this
  exact ⟨this.1.1, this.1.2, fun k h1 h2 => zIp this.2 h1 h2⟩
 | cons a A ih =>
  intro r B h r' hr'
  obtain ⟨_, hf, hd, _, hlo, _, _, _, ht⟩ := h
  simp only [List.cons_append, List.mem_cons] at hr'
  rcases hr' with rfl | hr'
  ·have hm : r ∈ A ++ r :: B := by simp
   refine ⟨(hd r hm).symm, fun hfr => ?_, .inr (hlo r hm)⟩
   have := List.all_eq_true.1 hf r hm
   rw [zIy] at hfr
   simp only [hfr, Bool.not_true, Bool.false_or, Bool.and_eq_true] at this
   exact ⟨this.1.2, this.1.1, fun k h1 h2 => zIp this.2 h2 h1⟩
  ·exact ih ht r' hr'
theorem Good.behind : ∀ {A : List Rec} {r : Rec} {B : List Rec}, Good ops pre n0 nt ok (A ++ r :: B) → ∀ r' ∈ B, ∀ i, ahead pre r'.i i → ∃ r'' ∈ B, r''.i = i := by
 intro A r B h r' hr' i hi
 have hB : Good ops pre n0 nt ok B := (h.tail).2.2.2.2.2.2.2.2
 obtain ⟨C, D, rfl⟩ := List.append_of_mem hr'
 obtain ⟨_, _, _, ho, _⟩ := hB.tail
 obtain ⟨r'', h1, h2⟩ := ho i hi
 exact ⟨r'', by simp [h1], h2⟩
theorem Good.both {A : List Rec} {r : Rec} {B : List Rec} (h : Good ops pre n0 nt ok (A ++ r :: B)) {D : Nat → Prop} (hr : ¬ D r.i) (hup : ∀ i, ahead pre r.i i → D i) (hdown : ∀ j i, D j → ahead pre j i → D i)
  {r' : Rec} (_ : r' ∈ A ++ B) (hnf : freeOf pre r.i r'.i ≠ true) : (∃ x ∈ B, x.i = r'.i) ↔ D r'.i := by
 have hself : Good ops pre n0 nt ok (r :: B) := h.tail
 rcases free_or hnf with h1 | h1
 ·exact ⟨fun _ => hup _ h1, fun _ => hself.2.2.2.1 _ h1⟩
 ·constructor
  ·rintro ⟨x, hx, hxi⟩
   obtain ⟨y, hy, hyi⟩ := h.behind x hx r.i (by rw [hxi]; exact h1)
   exact absurd hyi (hself.2.2.1 y hy)
  ·intro hD
   exact absurd (hdown _ _ hD h1) hr
theorem Good.notB {A : List Rec} {r : Rec} {B : List Rec} (h : Good ops pre n0 nt ok (A ++ r :: B)) : (∀ x ∈ A, ¬ ∃ y ∈ B, y.i = x.i) ∧ ¬ ∃ y ∈ B, y.i = r.i := by
 refine ⟨fun x hx => ?_, fun ⟨y, hy, e⟩ => h.tail.2.2.1 y hy e⟩
 rintro ⟨y, hy, e⟩
 obtain ⟨C, D, rfl⟩ := List.append_of_mem hx
 have h2 : Good ops pre n0 nt ok (x :: (D ++ r :: B)) := by
  have : C ++ x :: D ++ r :: B = C ++ (x :: (D ++ r :: B)) := by simp
  rw [this] at h; exact h.tail
 exact h2.2.2.1 y (by simp [hy]) e
end
end Go.Proofs.Ytpdeidlkeplegaa
namespace Go.Proofs.Ytpdeidlkeplegaa
open Go.RowKit
theorem zKx {ops : Array Oper} {pre : List Nat} (h : regOk ops pre = true) {i j : Nat} (hne : i ≠ j) (hf : freeOf pre i j = true) {x y : Oper} (hx : ops[i]? = some x) (hy : ops[j]? = some y) :
  (∀ d, y.dst = some d → d ∉ x.looksAt ops) ∧ (∀ d, x.dst = some d → y.dst ≠ some d) := by
 have hi : i < ops.size := (Array.getElem?_eq_some_iff.1 hx).1
 have hj : j < ops.size := (Array.getElem?_eq_some_iff.1 hy).1
 have key : ∀ {p q : Nat} {u v : Oper}, q < p → freeOf pre p q = true → ops[p]? = some u → ops[q]? = some v → u.apart ops v = true := by
  intro p q u v hqp hpq hu hv
  have hp : p < ops.size := (Array.getElem?_eq_some_iff.1 hu).1
  have h1 := List.all_eq_true.1 h p ((zCs _ _ _).2 ⟨Nat.zero_le _, by omega⟩)
  have h2 := List.all_eq_true.1 h1 q ((zCs _ _ _).2 ⟨Nat.zero_le _, by omega⟩)
  rw [hpq, hu, hv] at h2
  simpa using h2
 rcases Nat.lt_or_gt_of_ne hne with hlt | hgt
 ·obtain ⟨a, b, c⟩ := Oper.apart_spec (key hlt (by rw [zIy]; exact hf) hy hx)
  exact ⟨a, fun d hd hd' => b d hd' hd⟩
 ·obtain ⟨a, b, c⟩ := Oper.apart_spec (key hgt hf hx hy)
  exact ⟨c, b⟩
def RecOK (P : Program) (g0 : Nat) (rd : Option Nat) (nt : Nat) (ops : Array Oper) (f0 : Nat → Value) (G0 : Gh) (lw : Prop) : Rec → List Rec → Prop := fun r rs =>
 ∃ (o : Oper) (Gr : Gh), ops[r.i]? = some o ∧ (∀ k ob, Gr k = some ob → GD (fun _ => True) G0 rs k = some ob) ∧ (∀ k, Gr k ≠ none → rdKey r k) ∧
  ∀ (E : Env) (a : Act) (w : World) (K : Act → World → Prop) (Q : Exit → Act → World → Prop), lw → a.tmps.size = nt → (∀ t ∈ o.looksAt ops, VR E (TD ops (fun _ => True) f0 rs t) (a.tmps.getD t undef)) → (∀ g, g < g0 → E.dom g ∧ E.ρ g = g ∧ E.sh g = 0) → HR P E Gr w → Free E r.lo r.hi →
   (∀ E1 v' w1 Gn, VR E1 r.v v' → Ext E E1 → Took E E1 r.lo r.hi → HR P E1 Gn w1 → (∀ k, inK r k = true → Gn k = r.Hout.get k) → Stp E E1 r.W w w1 → (∀ k ∈ r.W, E.dom k → Gr k ≠ none) → K (a.put o.dst v') w1) → wpOpIn (rdF E rd) 0 P ops Q r.i K a w
def cnt (L : List Rec) (listed : Array Bool) : Nat := L.countP fun r => !(listed.getD r.i false)
theorem zMn (listed : Array Bool) (i j : Nat) (hi : i < listed.size) : (listed.setIfInBounds i true).getD j false = true ↔ listed.getD j false = true ∨ j = i := by
 rw [Array.getD_eq_getD_getElem?, Array.getD_eq_getD_getElem?]
 by_cases h : j = i
 ·subst h; simp [hi]
 ·simp [h, Ne.symm h]
theorem cnt_set {A : List Rec} {r : Rec} {B : List Rec} {listed : Array Bool} (hi : r.i < listed.size) (hr : listed.getD r.i false = false) : cnt (A ++ r :: B) (listed.setIfInBounds r.i true) < cnt (A ++ r :: B) listed := by
 have mono : ∀ M : List Rec, cnt M (listed.setIfInBounds r.i true) ≤ cnt M listed := fun M => by
  unfold cnt
  refine List.countP_mono_left fun x hx h => ?_
  simp only [Bool.not_eq_true'] at h ⊢
  cases hg : listed.getD x.i false with
  | false => rfl
  | true => rw [(zMn listed r.i x.i hi).2 (.inl hg)] at h; cases h
 have h1 := mono A
 have h2 := mono B
 have hr' := (zMn listed r.i r.i hi).2 (.inr rfl)
 have e1 : cnt (A ++ r :: B) listed = cnt A listed + (cnt B listed + 1) := by
  unfold cnt; rw [List.countP_append, List.countP_cons_of_pos (by rw [hr]; rfl)]
 have e2 : cnt (A ++ r :: B) (listed.setIfInBounds r.i true) = cnt A (listed.setIfInBounds r.i true) + cnt B (listed.setIfInBounds r.i true) := by
  unfold cnt; rw [List.countP_append, List.countP_cons_of_neg (by rw [hr']; simp)]
 rw [e1, e2]; omega
section
variable {P : Program} {g0 : Nat} {rd : Option Nat} {nt n0 : Nat} {ops : Array Oper} {f0 : Nat → Value} {G0 : Gh} {lw : Prop}
theorem zNd {L : List Rec} (h : Good ops (preAll ops.toList []) n0 nt (RecOK P g0 rd nt ops f0 G0 lw) L) {listed : Array Bool} (hs : listed.size = ops.size) (hex : ∃ r ∈ L, ¬ listed.getD r.i false = true) : Region.ready .any ops listed ≠ [] := by
 have key : ∀ M : List Rec, Good ops (preAll ops.toList []) n0 nt (RecOK P g0 rd nt ops f0 G0 lw) M → (∃ r ∈ M, ¬ listed.getD r.i false = true) → ∃ r ∈ M, (∃ o, ops[r.i]? = some o) ∧ ¬ listed.getD r.i false = true ∧ ∀ k, ahead (preAll ops.toList []) r.i k → listed.getD k false = true := by
  intro M
  induction M with
  | nil => intro _ ⟨r, hr, _⟩; cases hr
  | cons r rs ih =>
   intro hg hex
   by_cases hrs : ∃ x ∈ rs, ¬ listed.getD x.i false = true
   ·obtain ⟨x, h1, h2⟩ := ih hg.2.2.2.2.2.2.2.2 hrs
    exact ⟨x, by simp [h1], h2⟩
   ·obtain ⟨o, Gr, ho, _⟩ := hg.1
    refine ⟨r, by simp, ⟨o, ho⟩, ?_, fun k hk => ?_⟩
    ·obtain ⟨x, hx, hxn⟩ := hex
     rcases List.mem_cons.1 hx with rfl | hx
     ·exact hxn
     ·exact absurd ⟨x, hx, hxn⟩ hrs
    ·obtain ⟨x, hx, rfl⟩ := hg.2.2.2.1 k hk
     cases hq : listed.getD x.i false with
     | true => rfl
     | false => exact absurd ⟨x, hx, by rw [hq]; simp⟩ hrs
 obtain ⟨r, hr, ⟨o, ho⟩, hn, hk⟩ := key L h hex
 intro hnil
 have : r.i ∈ Region.ready .any ops listed := mem_ready.2 ⟨by
   have hlt : r.i < listed.size := by rw [hs]; exact (Array.getElem?_eq_some_iff.1 ho).1
   rw [Array.getD_eq_getD_getElem?, Array.getElem?_eq_getElem hlt] at hn ⊢
   simpa using hn, o, ho, fun e he hb => hk e.on ((zMt ho e.on).2 ⟨e, he, hb, .inl rfl⟩)⟩
 rw [hnil] at this; cases this
theorem draw_walk {L : List Rec} (hg : Good ops (preAll ops.toList []) n0 nt (RecOK P g0 rd nt ops f0 G0 lw) L) (hall : ∀ i, i < ops.size → ∃ r ∈ L, r.i = i) (hreg : regOk ops (preAll ops.toList []) = true) (hlw : lw)
  {Es : Env} {ws : World} {nE : Nat} (hfree : Free Es n0 nE) (hbd : ∀ r ∈ L, r.hi ≤ nE) (hgl : ∀ g, g < g0 → Es.dom g ∧ Es.ρ g = g ∧ Es.sh g = 0) (hrd : ∀ l, rd = some l → Es.dom l) {a0 : Act} {allW : List Nat} (hW : ∀ r ∈ L, ∀ k ∈ r.W, k ∈ allW) {Q : Exit → Act → World → Prop}
  (hQ : ∀ E a w, Ext Es E → (∀ k, E.dom k ↔ Es.dom k ∨ ∃ r ∈ L, r.lo ≤ k ∧ k < r.hi) → Stp Es E allW ws w → a.tmps.size = nt → a.defers = a0.defers → (∀ t, VR E (TD ops (fun _ => True) f0 L t) (a.tmps.getD t undef)) → HR P E (GD (fun _ => True) G0 L) w → Q .normal a w) :
  ∀ (fuel : Nat) (listed : Array Bool) (a : Act) (w : World), listed.size = ops.size → cnt L listed ≤ fuel →
   (∀ j o, ops[j]? = some o → listed.getD j false = true → ∀ e ∈ o.after, Region.binds .any e = true → listed.getD e.on false = true) →
   (∃ E, Ext Es E ∧ (∀ k, E.dom k ↔ Es.dom k ∨ ∃ r ∈ L, listed.getD r.i false = true ∧ r.lo ≤ k ∧ k < r.hi) ∧ Stp Es E allW ws w ∧ a.tmps.size = nt ∧ a.defers = a0.defers ∧
    (∀ t, VR E (TD ops (fun i => listed.getD i false = true) f0 L t) (a.tmps.getD t undef)) ∧ HR P E (GD (fun i => listed.getD i false = true) G0 L) w) →
   wpAnyIn (rdF Es rd) 0 P .any ops Q fuel listed a w := by
 have fin : ∀ (listed : Array Bool) (a : Act) (w : World), (∀ r ∈ L, listed.getD r.i false = true) →
   (∃ E, Ext Es E ∧ (∀ k, E.dom k ↔ Es.dom k ∨ ∃ r ∈ L, listed.getD r.i false = true ∧ r.lo ≤ k ∧ k < r.hi) ∧ Stp Es E allW ws w ∧ a.tmps.size = nt ∧ a.defers = a0.defers ∧
    (∀ t, VR E (TD ops (fun i => listed.getD i false = true) f0 L t) (a.tmps.getD t undef)) ∧ HR P E (GD (fun i => listed.getD i false = true) G0 L) w) → Q .normal a w := by
  rintro listed a w hdone ⟨E, h1, h2, h3, h4, h5, h6, h7⟩
  refine hQ E a w h1 (fun k => ?_) h3 h4 h5 (fun t => ?_) ?_
  ·rw [h2 k]; constructor
   ·rintro (h | ⟨r, hr, _, h⟩)
    ·exact .inl h
    ·exact .inr ⟨r, hr, h⟩
   ·rintro (h | ⟨r, hr, h⟩)
    ·exact .inl h
    ·exact .inr ⟨r, hr, hdone r hr, h⟩
  ·rw [zFu (D' := fun i => listed.getD i false = true) (fun r hr _ => ⟨fun _ => hdone r hr, fun _ => trivial⟩)]; exact h6 t
  ·have : GD (fun _ => True) G0 L = GD (fun i => listed.getD i false = true) G0 L := funext fun k => zFt (fun r hr _ => ⟨fun _ => hdone r hr, fun _ => trivial⟩)
   rw [this]; exact h7
 have nil_done : ∀ (listed : Array Bool), listed.size = ops.size → Region.ready .any ops listed = [] → ∀ r ∈ L, listed.getD r.i false = true := by
  intro listed hs hnil r hr
  cases hq : listed.getD r.i false with
  | true => rfl
  | false => exact absurd hnil (zNd hg hs ⟨r, hr, by rw [hq]; simp⟩)
 intro fuel
 induction fuel with
 | zero =>
  intro listed a w hs hc hcl hinv
  have hdone : ∀ r ∈ L, listed.getD r.i false = true := by
   intro r hr
   have h0 : cnt L listed = 0 := by omega
   unfold cnt at h0
   rw [List.countP_eq_zero] at h0
   have := h0 r hr
   simpa using this
  refine ⟨?_, fin listed a w hdone hinv⟩
  cases hr : Region.ready .any ops listed with
  | nil => rfl
  | cons i l =>
   have hm : i ∈ Region.ready .any ops listed := by rw [hr]; simp
   obtain ⟨h1, o, ho, _⟩ := mem_ready.1 hm
   have hlt : i < ops.size := (Array.getElem?_eq_some_iff.1 ho).1
   obtain ⟨r, hrL, rfl⟩ := hall i hlt
   have h2 := hdone r hrL
   have hlt' : r.i < listed.size := by omega
   rw [Array.getD_eq_getD_getElem?, Array.getElem?_eq_getElem hlt'] at h1 h2
   simp at h1 h2; rw [h1] at h2; cases h2
 | succ fuel ih =>
  intro listed a w hs hc hcl hinv
  refine ⟨fun hnil => fin listed a w (nil_done listed hs hnil) hinv, fun i hi => ?_⟩
  obtain ⟨E, x1, x2, x3, x4, x5, x6, x7⟩ := hinv
  obtain ⟨hnot, o, ho, hed⟩ := mem_ready.1 hi
  have hlt : i < ops.size := (Array.getElem?_eq_some_iff.1 ho).1
  obtain ⟨r, hrL, rfl⟩ := hall i hlt
  have hltl : r.i < listed.size := by omega
  have hnot' : listed.getD r.i false = false := by
   rw [Array.getD_eq_getD_getElem?, Array.getElem?_eq_getElem hltl] at hnot ⊢; simpa using hnot
  obtain ⟨A, B, hL⟩ := List.append_of_mem hrL
  subst hL
  have hDr : ¬ listed.getD r.i false = true := by rw [hnot']; simp
  have hup : ∀ k, ahead (preAll ops.toList []) r.i k → listed.getD k false = true := zHo (D := fun k => listed.getD k false = true) hcl r.i o ho hed
  have hdown : ∀ j k, listed.getD j false = true → ahead (preAll ops.toList []) j k → listed.getD k false = true := by
   intro j k hj hk
   have hjl : j < listed.size := by
    rcases Nat.lt_or_ge j listed.size with h | h
    ·exact h
    ·rw [Array.getD_eq_getD_getElem?, Array.getElem?_eq_none h] at hj; simp at hj
   have hoj : ops[j]? = some (ops[j]'(by omega)) := Array.getElem?_eq_getElem _
   exact zHo (D := fun k => listed.getD k false = true) hcl j _ hoj (hcl j _ hoj hj) k hk
  have hap := hg.apart
  have hnB := hg.notB
  obtain ⟨o', Gr, ho', hsub, hkey, hrec⟩ := (hg.tail).1
  rw [ho] at ho'; cases ho'
  have hgr := (hg.tail).2.2.2.2.2
  have two : ∀ r' ∈ A ++ r :: B, r' = r ∨ r' ∈ A ++ B := fun r' h => by
   simp only [List.mem_append, List.mem_cons] at h ⊢
   rcases h with h | h | h
   ·exact .inr (.inl h)
   ·exact .inl h
   ·exact .inr (.inr h)
  have hops : ∀ r' ∈ A ++ r :: B, ∃ y, ops[r'.i]? = some y := fun r' h => by
   obtain ⟨C, D, e⟩ := List.append_of_mem h
   rw [e] at hg
   obtain ⟨y, _, hy, _⟩ := (hg.tail).1
   exact ⟨y, hy⟩
  have agT : ∀ t ∈ o.looksAt ops, TD ops (fun _ => True) f0 B t = TD ops (fun i => listed.getD i false = true) f0 (A ++ r :: B) t := by
   intro t ht
   rw [zFu (D' := fun i => ∃ y ∈ B, y.i = i) (rs := B) (fun r' hr' _ => ⟨fun _ => ⟨r', hr', rfl⟩, fun _ => trivial⟩)]
   have e1 : TD ops (fun i => ∃ y ∈ B, y.i = i) f0 ((A ++ [r]) ++ B) t = TD ops (fun i => ∃ y ∈ B, y.i = i) f0 B t := zOf (fun x hx => by
    simp only [List.mem_append, List.mem_singleton] at hx
    rcases hx with hx | rfl
    ·exact hnB.1 x hx
    ·exact hnB.2)
   rw [← e1, List.append_assoc, List.singleton_append]
   refine zFu (fun r' hr' hd => ?_)
   rcases two r' hr' with rfl | hr2
   ·exact ⟨fun h => absurd h hnB.2, fun h => absurd h hDr⟩
   ·by_cases hfr : freeOf (preAll ops.toList []) r.i r'.i = true
    ·obtain ⟨y, hy⟩ := hops r' hr'
     obtain ⟨hne, _, _⟩ := hap r' hr2
     have := (zKx hreg hne.symm hfr ho hy).1 t (by simpa [dstOf, hy] using hd)
     exact absurd ht this
    ·exact hg.both hDr hup hdown hr2 hfr
  have agG : ∀ k, rdKey r k → GD (fun _ => True) G0 B k = GD (fun i => listed.getD i false = true) G0 (A ++ r :: B) k := by
   intro k hk
   rw [zFt (D' := fun i => ∃ y ∈ B, y.i = i) (rs := B) (fun r' hr' _ => ⟨fun _ => ⟨r', hr', rfl⟩, fun _ => trivial⟩)]
   have e1 : GD (fun i => ∃ y ∈ B, y.i = i) G0 ((A ++ [r]) ++ B) k = GD (fun i => ∃ y ∈ B, y.i = i) G0 B k := zOe (fun x hx => by
    simp only [List.mem_append, List.mem_singleton] at hx
    rcases hx with hx | rfl
    ·exact hnB.1 x hx
    ·exact hnB.2)
   rw [← e1, List.append_assoc, List.singleton_append]
   refine zFt (fun r' hr' hd => ?_)
   rcases two r' hr' with rfl | hr2
   ·exact ⟨fun h => absurd h hnB.2, fun h => absurd h hDr⟩
   ·by_cases hfr : freeOf (preAll ops.toList []) r.i r'.i = true
    ·exact absurd hk (zOn ((hap r' hr2).2.1 hfr).2.1 hd)
    ·exact hg.both hDr hup hdown hr2 hfr
  have hGr : ∀ k ob, Gr k = some ob → GD (fun i => listed.getD i false = true) G0 (A ++ r :: B) k = some ob := fun k ob h => by
   rw [← agG k (hkey k (by rw [h]; simp))]; exact hsub k ob h
  have hfrE : Free E r.lo r.hi := fun k h1 h2 hd => by
   rcases (x2 k).1 hd with h3 | ⟨r', hr', hD', h4, h5⟩
   ·exact hfree k (by have := hgr.1; omega) (by have := hbd r hrL; omega) h3
   ·rcases two r' hr' with rfl | hr2
    ·exact hDr hD'
    ·rcases (hap r' hr2).2.2 with h | h <;> omega
  have hrdE : rdF E rd = rdF Es rd := zDu x1 hrd
  have := hrec E a w (wpAnyIn (rdF Es rd) 0 P .any ops Q fuel (listed.setIfInBounds r.i true)) Q hlw x4 (fun t ht => by rw [agT t ht]; exact x6 t) (fun g hg' => ⟨x1.n g (hgl g hg').1, by rw [x1.ρ g (hgl g hg').1, x1.sh g (hgl g hg').1]; exact (hgl g hg').2⟩) (x7.sub hGr) hfrE ?_
  ·rw [hrdE] at this; exact this
  ·intro E1 v' w1 Gn hv hx ht hH hout hst hWl
   have hD' : ∀ j, (listed.setIfInBounds r.i true).getD j false = true ↔ listed.getD j false = true ∨ j = r.i := fun j => zMn listed r.i j hltl
   have hDn : ∀ r' ∈ A ++ B, ((listed.setIfInBounds r.i true).getD r'.i false = true ↔ listed.getD r'.i false = true) := fun r' hr' => by
    rw [hD']; exact ⟨fun h => h.resolve_right (hap r' hr').1, .inl⟩
   have later : ∀ r' ∈ A, listed.getD r'.i false = true → freeOf (preAll ops.toList []) r.i r'.i = true := by
    intro r' hr' hD
    cases hfr : freeOf (preAll ops.toList []) r.i r'.i with
    | true => rfl
    | false =>
     exact absurd ((hg.both hDr hup hdown (by simp [hr'] : r' ∈ A ++ B) (by rw [hfr]; simp)).2 hD) (hnB.1 r' hr')
   refine ih _ _ _ (by simp [hs]) (by have := cnt_set (A := A) (B := B) hltl hnot'; omega) ?_ ⟨E1, x1.trans hx, fun k => ?_, (x3.trans hst).sub (fun y hy _ => ?_), ?_, ?_, fun t => ?_, ?_⟩
   ·intro j oj hoj hj e he hb
    rw [hD'] at hj ⊢
    rcases hj with hj | rfl
    ·exact .inl (hcl j oj hoj hj e he hb)
    ·rw [ho] at hoj; cases hoj; exact .inl (hed e he hb)
   ·rw [ht k, x2 k]; constructor
    ·rintro ((h | ⟨r', hr', h1, h2⟩) | h)
     ·exact .inl h
     ·exact .inr ⟨r', hr', (hD' _).2 (.inl h1), h2⟩
     ·exact .inr ⟨r, hrL, (hD' _).2 (.inr rfl), h⟩
    ·rintro (h | ⟨r', hr', h1, h2⟩)
     ·exact .inl (.inl h)
     ·rcases two r' hr' with rfl | hr2
      ·exact .inr h2
      ·exact .inl (.inr ⟨r', hr', (hDn r' hr2).1 h1, h2⟩)
   ·simp only [List.mem_append] at hy
    rcases hy with hy | hy
    ·exact hW r hrL y hy
    ·exact hy
   ·cases o.dst <;> simp [Act.put, x4]
   ·rw [zAm]; exact x5
   ·by_cases hdt : o.dst = some t
    ·have hd : dstOf ops r.i = some t := by simp [dstOf, ho, hdt]
     have hltn : t < nt := hgr.2.2.1 t hd
     rw [TD_hit (D := fun i => (listed.setIfInBounds r.i true).getD i false = true) ((hD' _).2 (.inr rfl)) hd (fun r' hr' h1 h2 => ?_)]
     ·simp only [Act.put, hdt]
      rw [Array.getD_eq_getD_getElem?, Array.getElem?_setIfInBounds_self_of_lt (by rw [x4]; exact hltn)]
      exact hv
     ·have hm : r' ∈ A ++ B := by simp [hr']
      have hfr := later r' hr' ((hDn r' hm).1 h1)
      obtain ⟨y, hy⟩ := hops r' (by simp [hr'])
      exact (zKx hreg (hap r' hm).1.symm hfr ho hy).2 t hdt (by simpa [dstOf, hy] using h2)
    ·have e1 : TD ops (fun i => (listed.setIfInBounds r.i true).getD i false = true) f0 (A ++ r :: B) t = TD ops (fun i => listed.getD i false = true) f0 (A ++ r :: B) t := zFu (fun r' hr' hd => by
      rcases two r' hr' with rfl | hr2
      ·exact absurd (by simpa [dstOf, ho] using hd) hdt
      ·exact hDn r' hr2)
     rw [e1]
     have := (x6 t).ext hx
     rw [Array.getD_eq_getD_getElem?] at this ⊢
     cases hdst : o.dst with
     | none => exact this
     | some d =>
      simp only [Act.put]
      rwa [Array.getElem?_setIfInBounds_ne (fun e => hdt (by rw [hdst, e]))]
   ·have hnk : ∀ k, inK r k ≠ true → GD (fun i => (listed.setIfInBounds r.i true).getD i false = true) G0 (A ++ r :: B) k = GD (fun i => listed.getD i false = true) G0 (A ++ r :: B) k := fun k hk => zFt (fun r' hr' hd => by
     rcases two r' hr' with rfl | hr2
     ·exact absurd hd hk
     ·exact hDn r' hr2)
    have hhit : ∀ k, inK r k = true → GD (fun i => (listed.setIfInBounds r.i true).getD i false = true) G0 (A ++ r :: B) k = Gn k := fun k hk => by
     rw [GD_hit (D := fun i => (listed.setIfInBounds r.i true).getD i false = true) ((hD' _).2 (.inr rfl)) hk (fun r' hr' h1 h2 => ?_), hout k hk]
     have hm : r' ∈ A ++ B := by simp [hr']
     have hfr := later r' hr' ((hDn r' hm).1 h1)
     exact ((hap r' hm).2.1 hfr).2.2 k hk h2
    refine x7.lift hGr hst hH hWl (fun k hd hkW => ?_) (fun k hk => ?_)
    ·refine hnk k (fun h => ?_)
     rcases zBm.1 h with h | h
     ·exact hkW h
     ·exact hfrE k h.1 h.2 hd
    ·by_cases hin : inK r k = true
     ·exact hhit k hin
     ·have hkW : k ∉ r.W := fun h => hin (zBm.2 (.inl h))
      have hd : ¬ E.dom k := hk.resolve_right hkW
      rw [hnk k hin, x7.dom k hd]
      refine (hH.dom k (fun h1 => ?_)).symm
      rcases (ht k).1 h1 with h2 | h2
      ·exact hd h2
      ·exact hin (zBm.2 (.inr h2))
end
end Go.Proofs.Ytpdeidlkeplegaa
namespace Go.Proofs.Ytpdeidlkeplegaa
open Go.RowKit
theorem zIz {E : Env} {T : Tr Value} {tmps : Array Value} {ops : Array Oper} {o : Oper} (h : ∀ t ∈ o.looksAt ops, VR E ((T.get t).getD undef) (tmps.getD t undef)) : Region.wanted o (yielded ops tmps) = guardOk ops T o := by
 unfold Region.wanted guardOk
 cases hg : o.guard with
 | none => rfl
 | some jw =>
  obtain ⟨j, want⟩ := jw
  simp only []
  unfold yielded
  cases hd : (ops[j]?).bind (·.dst) with
  | none => rfl
  | some t =>
   simp only [Option.bind_some]
   have ht := h t (by unfold Oper.looksAt; rw [hg]; simp [hd])
   have key : ∀ b, tmps[t]? = some (.bool b) ↔ T.get t = some (.bool b) := by
    intro b
    have hb := ht.isBool b
    constructor
    ·intro e
     have : tmps.getD t undef = .bool b := by rw [Array.getD_eq_getD_getElem?, e]; rfl
     have := hb.1 this
     cases hT : T.get t with
     | none => rw [hT] at this; cases this
     | some v => rw [hT] at this; simp at this; rw [this]
    ·intro e
     rw [e] at hb
     have := hb.2 rfl
     rw [Array.getD_eq_getD_getElem?] at this
     cases hT : tmps[t]? with
     | none => rw [hT] at this; cases this
     | some v => rw [hT] at this; simp at this; rw [this]
   cases hT : T.get t with
   | none =>
    cases hA : tmps[t]? with
    | none => rfl
    | some v =>
     cases v <;> try rfl
     rename_i b
     have := (key b).1 hA
     rw [hT] at this; cases this
   | some u =>
    cases u with
    | bool b => rw [(key b).2 hT]; rfl
    | _ =>
     cases hA : tmps[t]? with
     | none => rfl
     | some v =>
      cases v <;> try rfl
      rename_i b
      have := (key b).1 hA
      rw [hT] at this; cases this
theorem zQc {g0 : Nat} {E : Env} {T : Tr Value} {a : Act} {ops : Array Oper} {o : Oper} (h : ∀ t ∈ o.looksAt ops, VR E ((T.get t).getD undef) (a.tmps.getD t undef)) (hg : ∀ g, g < g0 → E.dom g ∧ E.ρ g = g ∧ E.sh g = 0) (hok : okOps g0 o = true) : ∀ x ∈ o.op.operands, VR E (aev T x) (a.eval x) := by
 intro x hx
 have hox := List.all_eq_true.1 hok x (by simpa using hx)
 cases x with
 | tmp t => exact h t (by unfold Oper.looksAt; simp only [List.mem_append, List.mem_filterMap]; exact .inl ⟨.tmp t, by simpa using hx, rfl⟩)
 | const v => exact zAg 8 hox
 | global g =>
  have hlt : g + 1 ≤ g0 := Nat.le_of_ble_eq_true hox
  have := VR.ptr (E := E) g 0 (hg g hlt).1
  rw [(hg g hlt).2.1, (hg g hlt).2.2] at this
  exact this
 | func f => exact .func _ _ _ _ _ rfl .nil .nil
def Hid1 (pre : List Nat) (i : Nat) (rs : List Rec) (k : Nat) : Prop := ∃ r ∈ rs, freeOf pre i r.i = true ∧ r.lo ≤ k ∧ k < r.hi
theorem fold_none (H : Tr AObj) : ∀ (l : List Nat) (k : Nat), (l.foldl (fun H k => H.set k none) H).get k = if k ∈ l then none else H.get k := by
 intro l
 induction l generalizing H with
 | nil => intro k; simp
 | cons a l ih =>
  intro k
  rw [List.foldl_cons, ih]
  by_cases h : k ∈ l
  ·simp [h]
  ·by_cases hk : k = a
   ·subst hk; simp [h, Tr.get_set_self]
   ·simp [h, hk, Tr.get_set_ne _ _ hk]
theorem fold_back (H0 H : Tr AObj) : ∀ (l : List Nat) (k : Nat), (l.foldl (fun H k => H.set k (H0.get k)) H).get k = if k ∈ l then H0.get k else H.get k := by
 intro l
 induction l generalizing H with
 | nil => intro k; simp
 | cons a l ih =>
  intro k
  rw [List.foldl_cons, ih]
  by_cases h : k ∈ l
  ·simp [h]
  ·by_cases hk : k = a
   ·subst hk; simp [h, Tr.get_set_self]
   ·simp [h, hk, Tr.get_set_ne _ _ hk]
open Classical in
theorem zIf (pre : List Nat) (i : Nat) : ∀ (rs : List Rec) (H : Tr AObj) (k : Nat), (hide pre i H rs).get k = if Hid1 pre i rs k then none else H.get k
 | [], H, k => by simp only [hide]; rw [if_neg (fun ⟨r, hr, _⟩ => by cases hr)]
 | r :: rs, H, k => by
  rw [hide, zIf pre i rs]
  by_cases h1 : Hid1 pre i rs k
  ·have : Hid1 pre i (r :: rs) k := by obtain ⟨x, hx, h⟩ := h1; exact ⟨x, by simp [hx], h⟩
   rw [if_pos h1, if_pos this]
  ·rw [if_neg h1]
   cases hf : freeOf pre i r.i with
   | false =>
    have : ¬ Hid1 pre i (r :: rs) k := by
     rintro ⟨x, hx, h, h'⟩
     rcases List.mem_cons.1 hx with rfl | hx
     ·rw [hf] at h; cases h
     ·exact h1 ⟨x, hx, h, h'⟩
    rw [if_neg this]; rfl
   | true =>
    simp only [cond_true]
    rw [fold_none]
    by_cases hk : r.lo ≤ k ∧ k < r.hi
    ·rw [if_pos ((zCs _ _ _).2 ⟨hk.1, by omega⟩), if_pos ⟨r, by simp, hf, hk⟩]
    ·rw [if_neg (fun h => hk (by have := (zCs _ _ _).1 h; omega)), if_neg]
     rintro ⟨x, hx, h, h'⟩
     rcases List.mem_cons.1 hx with rfl | hx
     ·exact hk h'
     ·exact h1 ⟨x, hx, h, h'⟩
open Classical in
theorem zHn (pre : List Nat) (i : Nat) (H0 : Tr AObj) : ∀ (rs : List Rec) (H : Tr AObj) (k : Nat), (unhide pre i H0 H rs).get k = if Hid1 pre i rs k then H0.get k else H.get k
 | [], H, k => by simp only [unhide]; rw [if_neg (fun ⟨r, hr, _⟩ => by cases hr)]
 | r :: rs, H, k => by
  rw [unhide, zHn pre i H0 rs]
  by_cases h1 : Hid1 pre i rs k
  ·have : Hid1 pre i (r :: rs) k := by obtain ⟨x, hx, h⟩ := h1; exact ⟨x, by simp [hx], h⟩
   rw [if_pos h1, if_pos this]
  ·rw [if_neg h1]
   cases hf : freeOf pre i r.i with
   | false =>
    have : ¬ Hid1 pre i (r :: rs) k := by
     rintro ⟨x, hx, h, h'⟩
     rcases List.mem_cons.1 hx with rfl | hx
     ·rw [hf] at h; cases h
     ·exact h1 ⟨x, hx, h, h'⟩
    rw [if_neg this]; rfl
   | true =>
    simp only [cond_true]
    rw [fold_back]
    by_cases hk : r.lo ≤ k ∧ k < r.hi
    ·rw [if_pos ((zCs _ _ _).2 ⟨hk.1, by omega⟩), if_pos ⟨r, by simp, hf, hk⟩]
    ·rw [if_neg (fun h => hk (by have := (zCs _ _ _).1 h; omega)), if_neg]
     rintro ⟨x, hx, h, h'⟩
     rcases List.mem_cons.1 hx with rfl | hx
     ·exact hk h'
     ·exact h1 ⟨x, hx, h, h'⟩
theorem GD_out {G0 : Gh} {k : Nat} {D : Nat → Prop} : ∀ {rs : List Rec}, (∀ r ∈ rs, inK r k ≠ true) → GD D G0 rs k = G0 k
 | [], _ => rfl
 | r :: rs, h => by simp only [GD]; rw [if_neg (fun x => h r (by simp) x.2)]; exact GD_out (fun r' hr' => h r' (by simp [hr']))
theorem upd_in : ∀ (us : List (Nat × Option AObj)) (G G' : Gh) (j : Nat), j ∈ us.map (fun u => u.1) → upd us G j = upd us G' j
 | (i, x) :: us, G, G', j, h => by
  rw [upd, upd]
  by_cases hm : j ∈ us.map (fun u => u.1)
  ·exact upd_in us _ _ j hm
  ·simp only [List.map_cons, List.mem_cons] at h
   have hj := h.resolve_right hm
   rw [zFr us _ j hm, zFr us _ j hm]
   simp [gset, hj]
structure CI (P : Program) (g0 : Nat) (rd : Option Nat) (nt : Nat) (ops : Array Oper) (s0 : Fs) (rs : List Rec) (done : Nat) (s : Fs) : Prop where
 good : Good ops (preAll ops.toList []) s0.n nt (RecOK P g0 rd nt ops (fun t => (s0.T.get t).getD undef) s0.H.get (Low s0.n s0.H)) rs
 t : ∀ t, (s.T.get t).getD undef = TD ops (fun _ => True) (fun t => (s0.T.get t).getD undef) rs t
 h : ∀ k, k < s.n → s.H.get k = GD (fun _ => True) s0.H.get rs k
 n : s0.n ≤ s.n
 hi : ∀ r ∈ rs, r.hi ≤ s.n
 tile : ∀ k, (s0.n ≤ k ∧ k < s.n) ↔ ∃ r ∈ rs, r.lo ≤ k ∧ k < r.hi
 bits : ∀ j, Nat.testBit done j = true ↔ ∃ r ∈ rs, r.i = j
 low : Low s0.n s0.H → Low s.n s.H
 wr : (∀ r ∈ rs, ∀ k ∈ r.W, k ∈ s.wr) ∧ ∀ k ∈ s0.wr, k ∈ s.wr
 df : s.df = s0.df
section
variable {P : Program} {g0 : Nat} {rd : Option Nat} {nt : Nat} {ops : Array Oper} {s0 : Fs} {rs : List Rec} {done : Nat} {s : Fs}
theorem CI.push (h : CI P g0 rd nt ops s0 rs done s) {r : Rec} {s1 : Fs} {o : Oper} (ho : ops[r.i]? = some o) (hd : (!(done.testBit r.i)) = true) (hp : ((preAll ops.toList []).getD r.i 0 &&& done).beq ((preAll ops.toList []).getD r.i 0) = true) (hfit : fits (preAll ops.toList []) r rs = true)
  (hput : putT nt s.T o.dst r.v = some s1.T) (hlo : r.lo = s.n) (hhi : r.hi = s1.n) (hle : s.n ≤ s1.n) (hdf : s1.df = s.df) (hwr : (∀ k ∈ r.W, k ∈ s1.wr) ∧ ∀ k ∈ s.wr, k ∈ s1.wr)
  (hlow : Low s.n s.H → Low s1.n s1.H) (hh : ∀ k, k < s1.n → s1.H.get k = if inK r k = true then r.Hout.get k else s.H.get k) (hok : RecOK P g0 rd nt ops (fun t => (s0.T.get t).getD undef) s0.H.get (Low s0.n s0.H) r rs) :
  CI P g0 rd nt ops s0 (r :: rs) (done ||| 2 ^ r.i) s1 := by
 have hdst : dstOf ops r.i = o.dst := by simp [dstOf, ho]
 refine ⟨⟨hok, hfit, fun r' hr' e => ?_, fun i hi => ?_, fun r' hr' => by rw [hlo]; exact h.hi r' hr', by rw [hlo]; exact h.n, by rw [hlo, hhi]; exact hle, fun d hdd => ?_, h.good⟩, fun t => ?_, fun k hk => ?_, Nat.le_trans h.n hle, fun r' hr' => ?_, fun k => ?_, fun j => ?_, fun h0 => hlow (h.low h0), ⟨fun r' hr' k hk => ?_, fun k hk => hwr.2 k (h.wr.2 k hk)⟩, by rw [hdf, h.df]⟩
 ·have := (h.bits r.i).2 ⟨r', hr', e⟩
  rw [this] at hd; simp at hd
 ·have hp' := Nat.eq_of_beq_eq_true hp
  have : Nat.testBit ((preAll ops.toList []).getD r.i 0 &&& done) i = true := by rw [hp']; exact hi
  rw [Nat.testBit_and, Bool.and_eq_true] at this
  exact (h.bits i).1 this.2
 ·rw [hdst] at hdd
  rw [hdd] at hput
  simp only [putT] at hput
  cases hb : Nat.blt d nt with
  | false => simp [hb] at hput
  | true => exact Nat.le_of_ble_eq_true hb
 ·simp only [TD, hdst, true_and]
  cases hdt : o.dst with
  | none => rw [hdt] at hput; simp [putT] at hput; rw [← hput]; simp; exact h.t t
  | some d =>
   rw [hdt] at hput
   simp only [putT] at hput
   cases hb : Nat.blt d nt with
   | false => simp [hb] at hput
   | true =>
    simp [hb] at hput
    rw [← hput, Tr.get_set]
    by_cases htd : t = d
    ·subst htd; simp
    ·rw [if_neg htd, if_neg (by simpa using Ne.symm htd)]; exact h.t t
 ·rw [hh k hk]
  simp only [GD, true_and]
  by_cases hi : inK r k = true
  ·rw [if_pos hi, if_pos hi]
  ·rw [if_neg hi, if_neg hi]
   refine h.h k ?_
   rcases Nat.lt_or_ge k s.n with h1 | h1
   ·exact h1
   ·exact absurd (zBm.2 (.inr ⟨by rw [hlo]; exact h1, by rw [hhi]; exact hk⟩)) hi
 ·rcases List.mem_cons.1 hr' with rfl | hr'
  ·exact Nat.le_of_eq hhi
  ·exact Nat.le_trans (h.hi r' hr') hle
 ·constructor
  ·rintro ⟨h1, h2⟩
   rcases Nat.lt_or_ge k s.n with h3 | h3
   ·obtain ⟨r', hr', h4⟩ := (h.tile k).1 ⟨h1, h3⟩
    exact ⟨r', by simp [hr'], h4⟩
   ·exact ⟨r, by simp, by omega, by omega⟩
  ·rintro ⟨r', hr', h1, h2⟩
   rcases List.mem_cons.1 hr' with rfl | hr'
   ·have := h.n; omega
   ·have := (h.tile k).2 ⟨r', hr', h1, h2⟩; omega
 ·rw [Nat.testBit_or, Bool.or_eq_true, Nat.testBit_two_pow, decide_eq_true_eq, h.bits j]
  constructor
  ·rintro (⟨r', hr', e⟩ | e)
   ·exact ⟨r', by simp [hr'], e⟩
   ·exact ⟨r, by simp, e⟩
  ·rintro ⟨r', hr', e⟩
   rcases List.mem_cons.1 hr' with rfl | hr'
   ·exact .inr e
   ·exact .inl ⟨r', hr', e⟩
 ·rcases List.mem_cons.1 hr' with rfl | hr'
  ·exact hwr.1 k hk
  ·exact hwr.2 k (h.wr.1 r' hr' k hk)
end
end Go.Proofs.Ytpdeidlkeplegaa
namespace Go.Proofs.Ytpdeidlkeplegaa
open Go.RowKit
section
variable {P : Program} {g0 : Nat} {rec : Task → Fs → Res} {rd : Option Nat} {nt : Nat} {ops : Array Oper} {s0 : Fs}
theorem zEy (hrec : ∀ t s, TOK P g0 t s (rec t s)) : ∀ (l : List Nat) (done : Nat) (rs : List Rec) (s : Fs) (x : Ex) (s' : Fs), zEl P g0 rec nt rd ops (preAll ops.toList []) l done rs s = .code x s' → CI P g0 rd nt ops s0 rs done s →
  x = .normal ∧ ∃ L, CI P g0 rd nt ops s0 L (2 ^ ops.size - 1) s' ∧ L.length = ops.size
 | [], done, rs, s, x, s', hr, hci => by
  simp only [zEl] at hr
  cases hb : (done.beq (2 ^ ops.size - 1) && rs.length.beq ops.size) with
  | false => simp [hb] at hr
  | true =>
   simp only [hb, cond_true, Res.code.injEq] at hr
   obtain ⟨rfl, rfl⟩ := hr
   simp only [Bool.and_eq_true] at hb
   have := Nat.eq_of_beq_eq_true hb.1
   exact ⟨rfl, rs, by rw [← this]; exact hci, Nat.eq_of_beq_eq_true hb.2⟩
 | i :: l, done, rs, s, x, s', hr, hci => by
  simp only [zEl] at hr
  cases hb : (!(done.testBit i) && ((preAll ops.toList []).getD i 0 &&& done).beq ((preAll ops.toList []).getD i 0)) with
  | false => rw [hb] at hr; simp at hr
  | true =>
   rw [hb] at hr
   simp only [cond_true] at hr
   simp only [Bool.and_eq_true] at hb
   cases ho : ops[i]? with
   | none => simp [ho] at hr
   | some o =>
    simp only [ho] at hr
    cases hg : guardOk ops s.T o with
    | false =>
     simp only [hg, Bool.not_false, cond_true] at hr
     cases hp : putT nt s.T o.dst undef with
     | none => simp [hp] at hr
     | some T' =>
      simp only [hp] at hr
      obtain ⟨r, er⟩ : ∃ r : Rec, (⟨i, undef, s.n, s.n, [], some [], .e, s.H⟩ : Rec) = r := ⟨_, rfl⟩
      rw [er] at hr
      cases hfit : fits (preAll ops.toList []) r rs with
      | false => simp [hfit] at hr
      | true =>
       simp only [hfit, cond_true] at hr
       have hri : r.i = i := by rw [← er]
       have hnoK : ∀ k, inK r k ≠ true := fun k hk => by
        rcases zBm.1 hk with h | h
        ·rw [← er] at h; cases h
        ·rw [← er] at h; have h1 : s.n ≤ k := h.1; have h2 : k < s.n := h.2; omega
       rw [← hri] at hr
       refine zEy hrec l _ _ _ x s' hr (hci.push (by rw [hri]; exact ho) (by rw [hri]; exact hb.1) (by rw [hri]; exact hb.2) hfit (by rw [← er]; exact hp) (by rw [← er]) (by rw [← er]) (Nat.le_refl _) rfl ⟨(fun k hk => by rw [← er] at hk; cases hk), fun k hk => hk⟩ (fun h => h) (fun k _ => by rw [if_neg (hnoK k)]) ?_)
       refine ⟨o, fun _ => none, by rw [hri]; exact ho, (fun k ob h => by cases h), fun k h => absurd rfl h, ?_⟩
       intro E a w K Q _ hsz hT hgl hH hfree hK
       have hT' : ∀ t ∈ o.looksAt ops, VR E ((s.T.get t).getD undef) (a.tmps.getD t undef) := fun t ht => by rw [hci.t t]; exact hT t ht
       unfold wpOpIn
       rw [hri]
       simp only [ho]
       rw [if_neg (by rw [zIz hT', hg]; simp)]
       refine ⟨fun f _ => zKw E rd f, hK E undef w (fun _ => none) (by rw [← er]; exact VR.undef) (.refl E) (by rw [← er]; exact .refl E _) hH (fun k hk => absurd hk (hnoK k)) ((Stp.refl E w).sub (fun x hx => by cases hx)) (fun k hk => by rw [← er] at hk; cases hk)⟩
    | true =>
     simp only [hg, Bool.not_true, cond_false] at hr
     cases hok : okOps g0 o with
     | false => simp [hok] at hr
     | true =>
      simp only [hok, cond_true] at hr
      cases hc : zCd o with
      | some c =>
       simp only [hc] at hr
       obtain ⟨Hin, hHin⟩ : ∃ Hin, hide (preAll ops.toList []) i s.H rs = Hin := ⟨_, rfl⟩
       rw [hHin] at hr
       cases hcall : zFk P rec (callTo P (aev s.T) c) Hin s.n with
       | bad m tr => simp [hcall] at hr
       | code _ _ => simp [hcall] at hr
       | pan _ _ _ _ => simp [hcall] at hr
       | ret v H n wr =>
        simp only [hcall] at hr
        cases hp : putT nt s.T o.dst v with
        | none => simp [hp] at hr
        | some T' =>
         simp only [hp] at hr
         obtain ⟨r, er⟩ : ∃ r : Rec, (⟨i, v, s.n, n, wr, none, Hin, H⟩ : Rec) = r := ⟨_, rfl⟩
         rw [er] at hr
         cases hfit : (fits (preAll ops.toList []) r rs && (wr.all fun k => (Hin.get k).isSome)) with
         | false => simp [hfit] at hr
         | true =>
          simp only [hfit, cond_true] at hr
          simp only [Bool.and_eq_true] at hfit
          have hri : r.i = i := by rw [← er]
          rw [← hri] at hr
          obtain ⟨hgr, hwp⟩ := zOq hrec hc hok hcall (by simp) (by simp)
          have hgr : Grw s.n n Hin H wr := hgr
          have hhid : ∀ k, Hid1 (preAll ops.toList []) i rs k → k < s.n := fun k ⟨r', hr', _, _, h2⟩ => Nat.lt_of_lt_of_le h2 (hci.hi r' hr')
          have hin_sub : ∀ k ob, Hin.get k = some ob → s.H.get k = some ob ∧ ¬ Hid1 (preAll ops.toList []) i rs k := fun k ob h => by
           rw [← hHin, zIf] at h
           by_cases hh : Hid1 (preAll ops.toList []) i rs k
           ·rw [if_pos hh] at h; cases h
           ·rw [if_neg hh] at h; exact ⟨h, hh⟩
          have hin_low : Low s.n s.H → Low s.n Hin := fun hl k hk => by
           rw [← hHin, zIf]; split
           ·rfl
           ·exact hl k hk
          have hwin : ∀ k ∈ wr, Hin.get k ≠ none := fun k hk h => by
           have := List.all_eq_true.1 hfit.2 k hk; rw [h] at this; cases this
          have hnin : ∀ k, k ∈ wr → ¬ Hid1 (preAll ops.toList []) i rs k := fun k hk => by
           cases hx : Hin.get k with
           | none => exact absurd hx (hwin k hk)
           | some ob => exact (hin_sub k ob hx).2
          refine zEy hrec l _ _ _ x s' hr (hci.push (by rw [hri]; exact ho) (by rw [hri]; exact hb.1) (by rw [hri]; exact hb.2) hfit.1 (by rw [← er]; exact hp) (by rw [← er]) (by rw [← er]) hgr.le rfl
           ⟨fun k hk => by rw [← er] at hk; exact List.mem_append_left _ hk, fun k hk => List.mem_append_right _ hk⟩ (fun hl k hk => ?_) (fun k hk => ?_) ?_)
          ·show (unhide _ r.i s.H H rs).get k = none
           rw [hri, zHn]
           by_cases hh : Hid1 (preAll ops.toList []) i rs k
           ·have h1 := hhid k hh
            have h2 := hgr.le
            have hk : n ≤ k := hk
            omega
           ·rw [if_neg hh]; exact hgr.low (hin_low hl) k hk
          ·show (unhide _ r.i s.H H rs).get k = _
           have hk : k < n := hk
           rw [hri, zHn]
           by_cases hi : inK r k = true
           ·rw [if_pos hi]
            have hnh : ¬ Hid1 (preAll ops.toList []) i rs k := by
             rcases zBm.1 hi with h | h
             ·rw [← er] at h; exact hnin k h
             ·intro hh; have h1 := hhid k hh; rw [← er] at h; have h2 : s.n ≤ k := h.1; omega
            rw [if_neg hnh, ← er]
           ·rw [if_neg hi]
            by_cases hh : Hid1 (preAll ops.toList []) i rs k
            ·rw [if_pos hh]
            ·rw [if_neg hh]
             have hkn : k < s.n := by
              rcases Nat.lt_or_ge k s.n with h1 | h1
              ·exact h1
              ·exact absurd (zBm.2 (.inr (by rw [← er]; exact ⟨h1, hk⟩))) hi
             rw [hgr.same k hkn (fun h => hi (zBm.2 (.inl (by rw [← er]; exact h)))), ← hHin, zIf, if_neg hh]
          ·refine ⟨o, fun k => if k < s.n then Hin.get k else none, by rw [hri]; exact ho, fun k ob h => ?_, fun k h => ?_, ?_⟩
           ·have h : (if k < s.n then Hin.get k else none) = some ob := h
            by_cases hk : k < s.n
            ·rw [if_pos hk] at h
             rw [← hci.h k hk]; exact (hin_sub k ob h).1
            ·rw [if_neg hk] at h; cases h
           ·have h : (if k < s.n then Hin.get k else none) ≠ none := h
            by_cases hk : k < s.n
            ·rw [if_pos hk] at h; rw [← er]; exact h
            ·rw [if_neg hk] at h; exact absurd rfl h
           ·intro E a w K Q hlw hsz hT hgl hH hfree hK
            have hT' : ∀ t ∈ o.looksAt ops, VR E ((s.T.get t).getD undef) (a.tmps.getD t undef) := fun t ht => by rw [hci.t t]; exact hT t ht
            have hl := hin_low (hci.low hlw)
            have hGr : (fun k => if k < s.n then Hin.get k else none) = Hin.get := funext fun k => by
             by_cases hk : k < s.n
             ·rw [if_pos hk]
             ·rw [if_neg hk]; exact (hl k (by omega)).symm
            rw [hGr] at hH
            unfold wpOpIn
            rw [hri]
            simp only [ho]
            rw [if_pos (by rw [zIz hT', hg])]
            refine hwp E w a rd K Q (zQc hT' hgl hok) hgl hH hl (by rw [← er] at hfree; exact hfree) (fun e w' he => ?_)
            obtain ⟨E1, v', rfl, hv, hx, ht, hH1, hst⟩ := he
            refine hK E1 v' w' H.get (by rw [← er]; exact hv) hx (by rw [← er]; exact ht) hH1 (fun k hk => by rw [← er]) (by rw [← er]; exact hst) (fun k hk _ => ?_)
            rw [← er] at hk
            show (if k < s.n then Hin.get k else none) ≠ none
            rw [if_pos (hl.lt (hwin k hk))]; exact hwin k hk
      | none =>
       simp only [hc] at hr
       cases hde : zBp o with
       | true => simp [hde] at hr
       | false =>
        have hdef := zDp hde
        simp only [hde, cond_false] at hr
        obtain ⟨ids, hids⟩ : ∃ ids, idsOf (aev s.T) o = ids := ⟨_, rfl⟩
        rw [hids] at hr
        cases ha : aop P o (aev s.T) (restr ids s.H.get) s.n with
        | bad m => simp [ha] at hr
        | pan v => simp [ha] at hr
        | val v us k =>
         simp only [ha] at hr
         cases hky : (keysOk s.n k us (restr ids s.H.get) && ids.all (fun j => Nat.blt j s.n)) with
         | false => simp [hky] at hr
         | true =>
          simp only [hky, cond_true] at hr
          simp only [Bool.and_eq_true] at hky
          cases hp : putT nt s.T o.dst v with
          | none => simp [hp] at hr
          | some T' =>
           simp only [hp] at hr
           obtain ⟨W, hWe⟩ : ∃ W, ((us.map (fun u => u.1)).filter (fun j => !(s.n.ble j && Nat.blt j (s.n + k)))) = W := ⟨_, rfl⟩
           rw [hWe] at hr
           obtain ⟨r, er⟩ : ∃ r : Rec, (⟨i, v, s.n, s.n + k, W, some ids, .e, applyUs s.H us⟩ : Rec) = r := ⟨_, rfl⟩
           rw [er] at hr
           cases hfit : fits (preAll ops.toList []) r rs with
           | false => simp [hfit] at hr
           | true =>
            simp only [hfit, cond_true] at hr
            have hri : r.i = i := by rw [← er]
            rw [← hri] at hr
            have hidn : ∀ j ∈ ids, j < s.n := fun j hj => Nat.le_of_ble_eq_true (List.all_eq_true.1 hky.2 j hj)
            have hrn : ∀ j, restr ids s.H.get j ≠ none → j ∈ ids ∧ j < s.n ∧ restr ids s.H.get j = s.H.get j := fun j hj => by
             unfold restr at hj ⊢
             cases he : ids.elem j with
             | false => rw [he] at hj; exact absurd rfl hj
             | true => have hm : j ∈ ids := by simpa using he
                       exact ⟨hm, hidn j hm, rfl⟩
            have hus : ∀ u ∈ us, u.1 < s.n + k := zEn hky.1 (fun j hj => (hrn j hj).2.1)
            have hkeyW : ∀ j, j ∈ us.map (fun u => u.1) → inK r j = true := fun j hj => by
             rw [zBm, ← er]
             by_cases h : s.n ≤ j ∧ j < s.n + k
             ·exact .inr h
             ·left
              rw [← hWe]
              refine List.mem_filter.2 ⟨hj, ?_⟩
              cases h1 : (s.n.ble j && Nat.blt j (s.n + k)) with
              | false => rfl
              | true =>
               simp only [Bool.and_eq_true] at h1
               exact absurd ⟨Nat.le_of_ble_eq_true h1.1, Nat.le_of_ble_eq_true h1.2⟩ h
            have hWus : ∀ j ∈ r.W, j ∈ us.map (fun u => u.1) := fun j hj => by
             rw [← er] at hj; have hj : j ∈ W := hj; rw [← hWe] at hj; exact (List.mem_filter.1 hj).1
            have hkn : ∀ j, s.n ≤ j → j < s.n + k → j ∈ us.map (fun u => u.1) := fun j h1 h2 => by
             have hk := hky.1
             simp only [keysOk, Bool.and_eq_true, Bool.or_eq_true] at hk
             have hk1 : k ≤ 1 := Nat.le_of_ble_eq_true hk.1.1
             rcases hk.2 with h3 | h3
             ·have := Nat.eq_of_beq_eq_true h3; omega
             ·obtain ⟨u, hu, he⟩ := List.any_eq_true.1 h3
              have := Nat.eq_of_beq_eq_true he
              exact List.mem_map.2 ⟨u, hu, by omega⟩
            refine zEy hrec l _ _ _ x s' hr (hci.push (by rw [hri]; exact ho) (by rw [hri]; exact hb.1) (by rw [hri]; exact hb.2) hfit (by rw [← er]; exact hp) (by rw [← er]) (by rw [← er]) (Nat.le_add_right _ _) rfl
             ⟨fun j hj => List.mem_append_left _ (hWus j hj), fun j hj => List.mem_append_right _ hj⟩ (fun hl => zDa hl hus) (fun j hj => ?_) ?_)
            ·show (applyUs s.H us).get j = _
             by_cases hi : inK r j = true
             ·rw [if_pos hi, ← er]
             ·rw [if_neg hi, zBh]
              exact zFr _ _ _ (fun h => hi (hkeyW j h))
            ·refine ⟨o, restr ids s.H.get, by rw [hri]; exact ho, fun j ob h => ?_, fun j h => ?_, ?_⟩
             ·obtain ⟨_, h2, h3⟩ := hrn j (by rw [h]; simp)
              rw [← hci.h j h2, ← h3]; exact h
             ·rw [← er]; exact (hrn j h).1
             ·intro E a w K Q _ hsz hT hgl hH hfree hK
              have hT' : ∀ t ∈ o.looksAt ops, VR E ((s.T.get t).getD undef) (a.tmps.getD t undef) := fun t ht => by rw [hci.t t]; exact hT t ht
              unfold wpOpIn
              rw [hri]
              simp only [ho]
              rw [if_pos (by rw [zIz hT', hg])]
              have hs := zKl (n := s.n) hH (o := o) (zQc hT' hgl hok)
              rw [ha] at hs
              rw [← er] at hfree
              obtain ⟨nx, w', E1, hrun, hnx, hdom, hH1, hst, hlive⟩ := hs (fun hk => hfree s.n (Nat.le_refl _) (by show _ < s.n + k; omega))
              refine zAn hdef hrun ?_
              have hst' : Stp E E1 r.W w w' := hst.sub (fun y hy hd => by
               rcases zBm.1 (hkeyW y hy) with h | h
               ·exact h
               ·rw [← er] at h; exact absurd hd (hfree y h.1 h.2))
              have fin : ∀ v', VR E1 v v' → K (a.put o.dst v') w' := fun v' hv => by
               refine hK E1 v' w' _ (by rw [← er]; exact hv) hst.ext (by rw [← er]; exact hdom) hH1 (fun j hj => ?_) hst' (fun j hj hd => ?_)
               ·have hm : j ∈ us.map (fun u => u.1) := by
                 rcases zBm.1 hj with h | h
                 ·exact hWus j h
                 ·rw [← er] at h; exact hkn j h.1 h.2
                rw [← er]
                show upd us _ j = (applyUs s.H us).get j
                rw [zBh]
                exact upd_in us _ _ j hm
               ·obtain ⟨u, hu, e⟩ := List.mem_map.1 (hWus j hj)
                rw [← e] at hd ⊢; exact hlive u hu hd
              rcases hnx with ⟨v', rfl, hv⟩ | ⟨rfl, rfl⟩
              ·exact fin v' hv
              ·exact fin undef VR.undef
end
end Go.Proofs.Ytpdeidlkeplegaa
