/- DERIVED. The machine M, thirteenth part: calls, operations, plain regions. -/
import Derived.Test.YtgfjmkjhjfmbeaaGreatM12
namespace Go.Proofs.YtgfjmkjhjfmbeaaGreat
open Go.RowKit

section
variable {P : Program} {g0 : Nat} {rec : Task → Fs → Res}

theorem wpIn_of_run {E : Env} {rd : Option Nat} {o : Oper} {a : Act} {w : World} {K : Act → World → Prop} {Q : Exit → Act → World → Prop} {r : Result Next} (hd : ∀ c, o.op ≠ .defer c) (hr : (execOp a.eval o).run P w = r) (h : o.uponIn (rdF E rd) 0 P a K Q r) :
    o.wpIn (rdF E rd) 0 P a w K Q := by
  refine ⟨fun f _ => rdF_fn E rd f, ?_⟩
  rw [Oper.semAt_eq _ _ _ hd, hr]; exact h

theorem callsIn_rd {E : Env} {rd : Option Nat} {f : FuncId} {args : Array Value} {w : World} {R : Ending → World → Prop} (h : CallsIn Fence.wide 0 P f args w R) : CallsIn (rdF E rd) 0 P f args w R := by
  cases rd with
  | none => exact h
  | some l => exact h

/-- How the walk goes on behind a call. -/
def Onward (K : Act → World → Prop) (Q : Exit → Act → World → Prop) (o : Oper) (a : Act) : Ending → World → Prop
  | .returned v, w => K (a.put o.dst v) w
  | .panicked ch, w => Q (.panic ch) a w
  | .outgrown, _ => False

theorem Stp.own {n n' : Nat} {E E' : Env} {wr : List Nat} {w w' : World} (hfree : Free E n n') (hs : Stp E E' wr w w') : Stp E E' (own n n' wr) w w' := by
  refine hs.sub (fun y hy hd => List.mem_filter.2 ⟨hy, ?_⟩)
  cases h1 : (n.ble y && Nat.blt y n') with
  | false => rfl
  | true =>
    simp only [Bool.and_eq_true] at h1
    have h2 : n ≤ y := Nat.le_of_ble_eq_true h1.1
    have h3 : y + 1 ≤ n' := Nat.le_of_ble_eq_true h1.2
    exact absurd hd (hfree y h2 (by omega))

theorem Grw.own {n n' : Nat} {H H' : Tr AObj} {wr : List Nat} (g : Grw n n' H H' wr) : Grw n n' H H' (own n n' wr) := by
  refine ⟨g.le, fun k hk hkw => g.same k hk fun h => hkw (List.mem_filter.2 ⟨h, ?_⟩), g.low⟩
  have : n.ble k = false := by cases hb : n.ble k; rfl; exact absurd (Nat.le_of_ble_eq_true hb) (by omega)
  simp [this]

theorem plainL_args {E : Env} {args : List Value} {args' : Array Value} (ha : plainL args = true) (h : VL E args args'.toList) : args' = args.toArray := by
  have h1 : VR E (.agg args.toArray) (.agg args') := .agg _ _ h
  have h2 := plain_eq 9 (by simpa [plainV, plainL] using ha) h1
  simpa using h2
theorem run_call_any {w : World} {evc : Operand → Value} {o : Oper} {c : Call} {g : Operand} {f : FuncId} {first cap : Array Value} (ho : o.op = .call c) (hc : c.callee = .value g) (hg : evc g = .func (.func f) first cap) :
    (execOp evc o).run P w = (callFunc f (first ++ c.args.map evc ++ cap)).run P w := by
  simp [execOp, ho, resolve, hc, hg, Deferred.ofValue, invoke]

theorem run_ownMethod {t : TypeId} {name : String} {f : FuncId} (h : ownMethod P t name = some f) (k : Nat) (v : Value) (w : World) : (method (k + 1) t v name).run P w = .ok (f, v) w := by
  unfold ownMethod at h
  cases hi : P.info? t with
  | none => simp [hi] at h
  | some i =>
    simp only [hi] at h
    cases hm : i.methods.find? (·.name == name) with
    | none => simp [hm] at h
    | some m =>
      simp only [hm] at h
      cases hp : m.path.isEmpty with
      | false => simp [hp] at h
      | true =>
        simp only [hp, cond_true] at h
        have hpl : m.path.toList = [] := by simpa [Array.isEmpty] using hp
        split at h
        · rename_i f' te hf hu
          cases h
          simp [method, typeInfo, hi, hm, hpl, follow, hf, receiverAt, run_underlying hu, Place.get]
        · rename_i f' fs hf hu
          cases h
          simp [method, typeInfo, hi, hm, hpl, follow, hf, receiverAt, run_underlying hu, Place.get]
        · cases h

/-- What is called, in the model. -/
theorem callTo_fn {E : Env} {T : Tr Value} {a : Act} {o : Oper} {c : Call} {f : FuncId} {args : List Value} (hop : o.op = .call c) (hcl : callTo P (aev T) c = .fn f args) (hT : ∀ x ∈ o.op.operands, VR E (aev T x) (a.eval x)) :
    ∃ args' : Array Value, VL E args args'.toList ∧ ∀ w, (execOp a.eval o).run P w = (callFunc f args').run P w := by
  unfold callTo at hcl
  split at hcl
  · rename_i g hcg
    split at hcl
    · rename_i f' first cap hev
      simp only [CallTo.fn.injEq] at hcl
      obtain ⟨rfl, rfl⟩ := hcl
      have hvg := hT g (by rw [hop]; simp [Op.operands, Call.operands, hcg])
      rw [hev] at hvg
      obtain ⟨first', cap', he', hf1, hf2⟩ : ∃ first' cap', a.eval g = .func (.func f') first' cap' ∧ VL E first.toList first'.toList ∧ VL E cap.toList cap'.toList := by
        cases hv' : a.eval g <;> rw [hv'] at hvg <;> cases hvg
        exact ⟨_, _, rfl, ‹_›, ‹_›⟩
      refine ⟨first' ++ c.args.map a.eval ++ cap', ?_, fun w => run_call_any hop hcg he'⟩
      simp only [Array.toList_append]
      refine (hf1.append (vals_map fun x hx => hT x ?_)).append hf2
      rw [hop]; simp [Op.operands, Call.operands]; exact .inr (by simpa using hx)
    · cases hcl
    · cases hcl
  · rename_i x name hcg
    split at hcl
    · rename_i t v hev
      split at hcl
      · rename_i f' hm
        simp only [CallTo.fn.injEq] at hcl
        obtain ⟨rfl, rfl⟩ := hcl
        have hvg := hT x (by rw [hop]; simp [Op.operands, Call.operands, hcg])
        rw [hev] at hvg
        obtain ⟨v', he', hv⟩ : ∃ v', a.eval x = .iface t v' ∧ VR E v v' := by
          cases hv' : a.eval x <;> rw [hv'] at hvg <;> cases hvg
          exact ⟨_, rfl, ‹_›⟩
        refine ⟨#[v'] ++ c.args.map a.eval, ?_, fun w => ?_⟩
        · simp only [Array.toList_append]
          refine .cons _ _ _ _ hv (vals_map fun x hx => hT x ?_)
          rw [hop]; simp [Op.operands, Call.operands]; exact .inr (by simpa using hx)
        · have hd : 0 < Made.depth := by decide
          have hk : ∃ k, P.types.size + Made.depth = k + 1 := ⟨P.types.size + Made.depth - 1, by omega⟩
          obtain ⟨k, hk⟩ := hk
          have hx : ∀ (u : Value) (l : Array Value), (#[u] ++ l).extract 1 (#[u] ++ l).size = l := fun u l => by
            apply Array.ext'
            simp
          have h0 : ∀ (u : Value) (l : Array Value), (#[u] ++ l)[0]? = some u := fun u l => by simp [Array.getElem?_append]
          have h2 : ∀ (l : Array Value), l.extract 0 l.size = l := fun l => by simp
          have h3 : (execOp a.eval o).run P w = (callMethod (.iface t v') name (c.args.map a.eval)).run P w := by
            have hx' := hx (.iface t v') (c.args.map a.eval)
            have h0' := h0 (.iface t v') (c.args.map a.eval)
            simp only [execOp, hop, resolve, hcg, he', invoke, Sem.run_bind, Sem.run_pure, Result.andThen_ok]
            simp only [h0', hx']
          rw [h3]
          simp [callMethod, hk, run_ownMethod hm]
      · cases hcl
    · cases hcl
  · cases hcl

theorem call_wp (hrec : ∀ t s, TOK P g0 t s (rec t s)) {o : Oper} {c : Call} (hc : isCall o = some c) (hok : okOps g0 o = true) {T : Tr Value} {H : Tr AObj} {n : Nat} {r : Res} (hr : evCall P rec (callTo P (aev T) c) H n = r)
    (hgood : ∀ m tr, r ≠ .bad m tr) (hgood2 : ∀ x s, r ≠ .code x s) : endGrw n H r ∧ ∀ (E : Env) (w : World) (a : Act) (rd : Option Nat) (K : Act → World → Prop) (Q : Exit → Act → World → Prop), (∀ x ∈ o.op.operands, VR E (aev T x) (a.eval x)) → (∀ g, g < g0 → E.dom g ∧ E.ρ g = g) → HR P E H.get w → Low n H → Free E n (endN r n) →
      (∀ e w', CallEnd P E n w r e w' → Onward K Q o a e w') → o.wpIn (rdF E rd) 0 P a w K Q := by
  obtain ⟨hop, hnb⟩ := isCall_some hc
  have hdef : ∀ c', o.op ≠ .defer c' := fun c' e => by rw [hop] at e; cases e
  have hopx : ∀ x ∈ o.op.operands, okX g0 x = true := fun x hx => List.all_eq_true.1 hok x (by simpa using hx)
  unfold evCall at hr
  cases hcl : callTo P (aev T) c with
  | no => rw [hcl] at hr; exact absurd hr.symm (hgood _ _)
  | fn f args =>
    rw [hcl] at hr
    simp only [] at hr
    cases hca : callable P f with
    | false =>
      rw [hca] at hr
      simp only [cond_false] at hr
      unfold evExt at hr
      cases hpl : plainL args with
      | false => rw [hpl] at hr; exact absurd hr.symm (hgood _ _)
      | true =>
      rw [hpl] at hr
      simp only [cond_true] at hr
      split at hr
      case h_2 => exact absurd hr.symm (hgood _ _)
      rename_i v hpr
      cases hpv : plainV 8 v with
      | false => rw [hpv] at hr; exact absurd hr.symm (hgood _ _)
      | true =>
      rw [hpv] at hr
      simp only [cond_true] at hr
      subst hr
      refine ⟨Grw.refl _ _ _, fun E w a rd K Q hT hgl hH hlow hfree hgo => ?_⟩
      obtain ⟨args', hargs, hrunE⟩ := callTo_fn hop hcl hT
      have hrun : (execOp a.eval o).run P w = .ok (.value v) w := by
        rw [hrunE w, plainL_args hpl hargs]
        exact pureR_ok hpr w
      refine wpIn_of_run hdef hrun ?_
      rw [Oper.uponIn_value]
      exact hgo (.returned v) w ⟨E, v, rfl, plain_refl 8 hpv, .refl E, .refl E _, hH, .refl E w⟩
    | true =>
      rw [hca] at hr
      simp only [cond_true] at hr
      obtain ⟨_, _, _, _, hrun⟩ := callable_spec hca
      have ht := hrec (.call f args) ⟨.e, H, n, [], []⟩
      rw [hr] at ht
      have ht : CallOK P g0 f args H n r := by
        cases r with
        | bad m tr => exact absurd rfl (hgood m tr)
        | code x s => exact absurd rfl (hgood2 x s)
        | ret v H' n' wr => exact ht
        | pan ch H' n' wr => exact ht
      refine ⟨ht.1, fun E w a rd K Q hT hgl hH hlow hfree hgo => ?_⟩
      obtain ⟨args', hargs, hrunE⟩ := callTo_fn hop hcl hT
      refine wpIn_of_run hdef ((hrunE w).trans (hrun args' w)) ?_
      rw [Oper.uponIn_enter]
      refine ⟨(fun h => by rw [rdF_depth] at h; cases h), callsIn_rd ((ht.2 E w _ hgl hargs hH hlow hfree).mono fun e w' he => ?_)⟩
      have := hgo e w' he
      cases e with
      | returned v => exact this
      | panicked ch => exact this
      | outgrown => exact this.elim
  | yield l args =>
    rw [hcl] at hr
    simp only [] at hr
    cases hr1 : evRound rec l args H n with
    | bad m tr => rw [hr1] at hr; exact absurd hr.symm (hgood _ _)
    | code x s => rw [hr1] at hr; exact absurd hr.symm (hgood _ _)
    | pan ch H' n' wr => rw [hr1] at hr; exact absurd hr.symm (hgood _ _)
    | ret v H' n' wr =>
      rw [hr1] at hr
      simp only [] at hr
      subst hr
      obtain ⟨hg, hround⟩ := evRound_ok hrec hr1
      refine ⟨hg.own, fun E w a rd K Q hT hgl hH hlow hfree hgo => ?_⟩
      unfold callTo at hcl
      split at hcl
      · rename_i g hcg
        split at hcl
        · cases hcl
        · rename_i l' x1 x2 hev
          simp only [CallTo.yield.injEq] at hcl
          obtain ⟨rfl, rfl⟩ := hcl
          have hvg := hT g (by rw [hop]; simp [Op.operands, Call.operands, hcg])
          rw [hev] at hvg
          have he' : a.eval g = .func (.yield (E.ρ l')) #[] #[] := by
            cases hv' : a.eval g <;> rw [hv'] at hvg <;> cases hvg
            · rename_i hp _ _; simp [plainFn] at hp
            · rfl
          obtain ⟨fn, tmps, assign, body, hy, hR⟩ := hround E w (c.args.map a.eval) hgl (vals_map fun x hx => hT x (by rw [hop]; simp [Op.operands, Call.operands]; exact .inr (by simpa using hx))) hH hlow hfree
          refine wpIn_of_run hdef ((run_call_yield hop hcg he').trans hy) ?_
          rw [Oper.uponIn_round]
          refine ⟨(fun h => by rw [rdF_depth] at h; cases h), (hR rd).mono fun e w' he => ?_⟩
          obtain ⟨E', v', c1, c2, c3, c4, c5, c6⟩ := he
          have := hgo e w' ⟨E', v', c1, c2, c3, c4, c5, c6.own hfree⟩
          cases e with
          | returned v => exact this
          | panicked ch => exact this
          | outgrown => exact this.elim
        · cases hcl
      · split at hcl
        · split at hcl <;> cases hcl
        · cases hcl
      · cases hcl

theorem wpIn_of_run_none {E : Env} {o : Oper} {a : Act} {w : World} {K : Act → World → Prop} {Q : Exit → Act → World → Prop} {r : Result Next} (hr : (execOp a.eval o).run P w = r) (h : o.uponIn (rdF E none) 0 P a K Q r) :
    o.wpIn (rdF E none) 0 P a w K Q := by
  refine ⟨fun f _ => rdF_fn E none f, ?_⟩
  show o.uponIn _ 0 P a K Q ((o.semAt none a.eval).run P w)
  rw [Oper.semAt_none, hr]; exact h

theorem run_defer {w : World} {evc : Operand → Value} {o : Oper} {c : Call} {g : Operand} {f : FuncId} {first cap : Array Value} (ho : o.op = .defer c) (hc : c.callee = .value g) (hg : evc g = .func (.func f) first cap) :
    (execOp evc o).run P w = .ok (.defer { target := .fn (.func f) cap, args := first ++ c.args.map evc }) w := by
  simp [execOp, ho, resolve, hc, hg, Deferred.ofValue]

/-- 'defer', outside of rounds. -/
theorem evDefer_ok {nt : Nat} {rd : Option Nat} {o : Oper} {s s1 : Fs} {x : Ex} (hok : okOps g0 o = true) (hr : evDefer nt rd o s = .code x s1) :
    (Grw s.n s1.n s.H s1.H s1.wr ∧ ∀ k ∈ s.wr, k ∈ s1.wr) ∧
    ∀ (E0 : Env) (w0 : World) (E : Env) (a : Act) (w : World) (K : Act → World → Prop) (Q : Exit → Act → World → Prop), FRm P g0 E0 w0 E nt rd s a w → Free E s.n s1.n →
      (∀ E1 a1 w1, x = .normal → Ext E E1 → Took E E1 s.n s1.n → FRm P g0 E0 w0 E1 nt rd s1 a1 w1 → K a1 w1) → o.wpIn (rdF E rd) 0 P a w K Q := by
  have hopx : ∀ x ∈ o.op.operands, okX g0 x = true := fun x hx => List.all_eq_true.1 hok x (by simpa using hx)
  unfold evDefer at hr
  cases rd with
  | some l => simp at hr
  | none =>
    simp only [] at hr
    split at hr
    · rename_i c hop
      split at hr
      · rename_i g hcg
        split at hr
        · rename_i f first cap hev
          cases hp : putT nt s.T o.dst undef with
          | none => simp [hp] at hr
          | some T' =>
            simp only [hp, Res.code.injEq] at hr
            obtain ⟨rfl, rfl⟩ := hr
            refine ⟨⟨Grw.refl _ _ _, fun k hk => hk⟩, fun E0 w0 E a w K Q hf hfree hK => ?_⟩
            have hT : ∀ x ∈ o.op.operands, VR E (aev s.T x) (a.eval x) := fun x hx => aev_rel hf.tr hf.gl (hopx x hx)
            have hvg := hT g (by rw [hop]; simp [Op.operands, Call.operands, hcg])
            rw [hev] at hvg
            obtain ⟨first', cap', he', hf1, hf2⟩ : ∃ first' cap', a.eval g = .func (.func f) first' cap' ∧ VL E first.toList first'.toList ∧ VL E cap.toList cap'.toList := by
              cases hv' : a.eval g <;> rw [hv'] at hvg <;> cases hvg
              exact ⟨_, _, rfl, ‹_›, ‹_›⟩
            refine wpIn_of_run_none (run_defer hop hcg he') ?_
            rw [Oper.uponIn_defer]
            refine hK E _ w rfl (.refl E) (.refl E _) ⟨?_, hf.hr, hf.lw, hf.stp, ?_, hf.gl, fun l e => by cases e⟩
            · exact TR.put (a := { a with defers := _ }) hf.tr VR.undef hp
            · rw [put_defers]
              refine .call f _ _ _ _ _ _ hf2 ?_ hf.df
              simp only [Array.toList_append]
              exact hf1.append (vals_map fun x hx => hT x (by rw [hop]; simp [Op.operands, Call.operands]; exact .inr (by simpa using hx)))
        · cases hr
      · cases hr
    · cases hr

/-- One operation: the result is 'normal' or a panic. -/
theorem evOp_ok (hrec : ∀ t s, TOK P g0 t s (rec t s)) {nt : Nat} {rd : Option Nat} {o : Oper} {s s1 : Fs} {x : Ex} (hr : evOp P g0 rec nt rd o s = .code x s1) :
    (Grw s.n s1.n s.H s1.H s1.wr ∧ ∀ k ∈ s.wr, k ∈ s1.wr) ∧
    ∀ (E0 : Env) (w0 : World) (E : Env) (a : Act) (w : World) (K : Act → World → Prop) (Q : Exit → Act → World → Prop), FRm P g0 E0 w0 E nt rd s a w → Free E s.n s1.n →
      (∀ E1 a1 w1, x = .normal → Ext E E1 → Took E E1 s.n s1.n → FRm P g0 E0 w0 E1 nt rd s1 a1 w1 → K a1 w1) →
      (∀ E1 ch ch' w1, x = .pan ch → Ext E E1 → Took E E1 s.n s1.n → FRm P g0 E0 w0 E1 nt rd s1 a w1 → CR E1 ch ch' → Q (.panic ch') a w1) → o.wpIn (rdF E rd) 0 P a w K Q := by
  unfold evOp at hr
  cases hok : okOps g0 o with
  | false => simp [hok] at hr
  | true =>
    simp only [hok, cond_true] at hr
    cases hc : isCall o with
    | some c =>
      simp only [hc] at hr
      cases hcall : evCall P rec (callTo P (aev s.T) c) s.H s.n with
      | bad m tr => simp [hcall] at hr
      | code x s => simp [hcall] at hr
      | ret v H' n' wr =>
        simp only [hcall] at hr
        cases hp : putT nt s.T o.dst v with
        | none => simp [hp] at hr
        | some T' =>
          simp only [hp, Res.code.injEq] at hr
          obtain ⟨rfl, rfl⟩ := hr
          obtain ⟨hg, hwp⟩ := call_wp hrec hc hok hcall (by simp) (by simp)
          refine ⟨⟨⟨hg.le, fun k hk hkw => hg.same k hk (fun h => hkw (by simp [h])), hg.low⟩, fun k hk => by simp [hk]⟩, fun E0 w0 E a w K Q hf hfree hK hQ => ?_⟩
          refine hwp E w a rd K Q (fun x hx => aev_rel hf.tr hf.gl (List.all_eq_true.1 hok x (by simpa using hx))) hf.gl hf.hr hf.lw hfree (fun e w' he => ?_)
          obtain ⟨E1, v', rfl, hv, hx, ht, hH, hs⟩ := he
          exact hK E1 _ w' rfl hx ht ⟨(hf.tr.ext hx).put hv hp, hH, hg.low hf.lw, hf.stp.trans hs, by rw [put_defers]; exact hf.df.ext hx, fun g hg => ⟨hx.n g (hf.gl g hg).1, by rw [hx.ρ g (hf.gl g hg).1]; exact (hf.gl g hg).2⟩, fun l hl => hx.n l (hf.rd l hl)⟩
      | pan ch H' n' wr =>
        simp only [hcall, Res.code.injEq] at hr
        obtain ⟨rfl, rfl⟩ := hr
        obtain ⟨hg, hwp⟩ := call_wp hrec hc hok hcall (by simp) (by simp)
        refine ⟨⟨⟨hg.le, fun k hk hkw => hg.same k hk (fun h => hkw (by simp [h])), hg.low⟩, fun k hk => by simp [hk]⟩, fun E0 w0 E a w K Q hf hfree hK hQ => ?_⟩
        refine hwp E w a rd K Q (fun x hx => aev_rel hf.tr hf.gl (List.all_eq_true.1 hok x (by simpa using hx))) hf.gl hf.hr hf.lw hfree (fun e w' he => ?_)
        obtain ⟨E1, ch', rfl, hv, hx, ht, hH, hs⟩ := he
        exact hQ E1 ch ch' w' rfl hx ht ⟨hf.tr.ext hx, hH, hg.low hf.lw, hf.stp.trans hs, hf.df.ext hx, fun g hg => ⟨hx.n g (hf.gl g hg).1, by rw [hx.ρ g (hf.gl g hg).1]; exact (hf.gl g hg).2⟩, fun l hl => hx.n l (hf.rd l hl)⟩ hv
    | none =>
      simp only [hc] at hr
      cases hde : isDefer o with
      | true =>
        simp only [hde, cond_true] at hr
        obtain ⟨h1, h2⟩ := evDefer_ok (P := P) hok hr
        exact ⟨h1, fun E0 w0 E a w K Q hf hfree hK _ => h2 E0 w0 E a w K Q hf hfree hK⟩
      | false =>
      have hdef := isDefer_false hde
      simp only [hde, cond_false] at hr
      have hopx : ∀ x ∈ o.op.operands, okX g0 x = true := fun x hx => List.all_eq_true.1 hok x (by simpa using hx)
      cases ha : aop P o (aev s.T) s.H.get s.n with
      | bad m => simp [ha] at hr
      | pan v =>
        simp only [ha, Res.code.injEq] at hr
        obtain ⟨rfl, rfl⟩ := hr
        refine ⟨⟨Grw.refl _ _ _, fun k hk => hk⟩, fun E0 w0 E a w K Q hf hfree hK hQ => ?_⟩
        have hs := aop_ok (n := s.n) hf.hr (o := o) (fun x hx => aev_rel hf.tr hf.gl (hopx x hx))
        rw [ha] at hs
        obtain ⟨v', w1, hrun, hv, hw⟩ := hs
        refine wpIn_of_run hdef hrun ?_
        rw [Oper.uponIn_panic]
        refine hQ E _ _ w1 rfl (.refl E) (.refl E _) ?_ (.cons _ _ _ _ _ hv rfl rfl .nil)
        rcases hw with rfl | rfl
        · exact hf
        · exact ⟨hf.tr, hf.hr.drew, hf.lw, hf.stp.drew _, hf.df, hf.gl, hf.rd⟩
      | val v us k =>
        simp only [ha] at hr
        cases hky : keysOk s.n k us s.H.get with
        | false => simp [hky] at hr
        | true =>
        simp only [hky, cond_true] at hr
        cases hp : putT nt s.T o.dst v with
        | none => simp [hp] at hr
        | some T' =>
          simp only [hp, Res.code.injEq] at hr
          obtain ⟨rfl, rfl⟩ := hr
          refine ⟨⟨⟨Nat.le_add_right _ _, fun k hk hkw => ?_, fun h0 => keysOk_low h0 (keysOk_lt hky (fun j hj => h0.lt hj))⟩, fun k hk => by simp [hk]⟩, fun E0 w0 E a w K Q hf hfree hK hQ => ?_⟩
          · show (applyUs s.H us).get k = _
            rw [applyUs_get]; exact upd_out _ _ _ (fun h => hkw (by simp only [List.mem_append]; exact .inl h))
          · have hs := aop_ok (n := s.n) hf.hr (o := o) (fun x hx => aev_rel hf.tr hf.gl (hopx x hx))
            rw [ha] at hs
            obtain ⟨nx, w', E1, hrun, hnx, hdom, hH, hst, _⟩ := hs (fun hk => hfree s.n (Nat.le_refl _) (by show _ < s.n + k; omega))
            refine wpIn_of_run hdef hrun ?_
            have hx := hst.ext
            have fin : ∀ v', VR E1 v v' → K (a.put o.dst v') w' := fun v' hv => hK E1 _ w' rfl hx hdom
              ⟨(hf.tr.ext hx).put hv hp, by show HR P E1 (applyUs s.H us).get w'; rw [applyUs_get]; exact hH, keysOk_low hf.lw (keysOk_lt hky (fun j hj => hf.lw.lt hj)), hf.stp.trans hst, by rw [put_defers]; exact hf.df.ext hx, fun g hg => ⟨hx.n g (hf.gl g hg).1, by rw [hx.ρ g (hf.gl g hg).1]; exact (hf.gl g hg).2⟩, fun l hl => hx.n l (hf.rd l hl)⟩
            rcases hnx with ⟨v', rfl, hv⟩ | ⟨rfl, rfl⟩
            · exact fin v' hv
            · exact fin undef VR.undef
end
end Go.Proofs.YtgfjmkjhjfmbeaaGreat
