/- DERIVED. The machine M, fifteenth part: functions, code. -/
import Derived.Test.YtgfjmkjhjfmbeaaGreatM14
namespace Go.Proofs.YtgfjmkjhjfmbeaaGreat
open Go.RowKit

section
variable {P : Program} {g0 : Nat} {rec : Task → Fs → Res}

/-- A name dies. -/
theorem HR.kill {E : Env} {G : Gh} {w w' : World} (h : HR P E G w) {id : Nat} {o : AObj} (hg : G id = some o) (hw : w'.os = w.os ∧ w'.tape = w.tape ∧ w'.output = w.output ∧ w'.heap.size = w.heap.size)
    (hb : ∀ b, b ≠ E.ρ id → w'.heap[b]? = w.heap[b]?) : HR P E (gset G id none) w' ∧ Stp E E [id] w w' := by
  have hl := h.live (id := id) (by rw [hg]; simp)
  have key : ∀ k x, gset G id none k = some x → k ≠ id ∧ G k = some x := fun k x hx => by
    have hx : (if k = id then none else G k) = some x := hx
    by_cases he : k = id
    · rw [if_pos he] at hx; cases hx
    · rw [if_neg he] at hx; exact ⟨he, hx⟩
  have key2 : ∀ k, gset G id none k ≠ none → k ≠ id ∧ G k ≠ none := fun k hk => by
    cases hx : gset G id none k with
    | none => exact absurd hx hk
    | some x => exact ⟨(key k x hx).1, by rw [(key k x hx).2]; simp⟩
  refine ⟨⟨fun k hk => by rw [hw.2.2.2]; exact h.lt k hk, fun k hk => ?_, fun k x hx => ?_, fun i j hi hj e => h.inj i j (key2 i hi).2 (key2 j hj).2 e⟩,
    ⟨.refl E, hw.1, hw.2.1, hw.2.2.1, Nat.le_of_eq hw.2.2.2.symm, fun b _ hx => hb b (fun e => hx id (by simp) hl e.symm), fun k h1 h2 => absurd h2 h1⟩⟩
  · show (if _ then _ else _) = none
    split
    · rfl
    · exact h.dom k hk
  · obtain ⟨h1, h2⟩ := key k x hx
    exact (h.obj k x h2).mono (.refl E) (h.live (by rw [h2]; simp)) (hb _ (fun e => h1 (h.inj k id (by rw [h2]; simp) (by rw [hg]; simp) e)))

theorem evOut_ok (hrec : ∀ t s, TOK P g0 t s (rec t s)) {fn : Func} {tmps : Array Value} {R : Ending → World → Prop} : ∀ (df : List ADf) (u : Option (List (Value × Bool))) (H : Tr AObj) (n : Nat) (wr : List Nat) (U : Option (List (Value × Bool))) (H' : Tr AObj) (n' : Nat) (wr' : List Nat), evOut P rec df u H n wr = .ok U H' n' wr' →
    (Grw n n' H H' wr' ∧ ∀ k ∈ wr, k ∈ wr') ∧ ∀ (ds : List Deferred) (u' : FrameMode) (E0 : Env) (w0 : World) (E : Env) (w : World), DR E df ds → UR E u u' → HR P E H.get w → Low n H → Stp E0 E wr w0 w → (∀ g, g < g0 → E.dom g ∧ E.ρ g = g) → Free E n n' →
      (∀ E' U' w', Ext E E' → Took E E' n n' → UR E' U U' → HR P E' H'.get w' → Stp E0 E' wr' w0 w' → LeavesIn Fence.wide 0 P fn tmps R [] U' w') → LeavesInM Fence.wide 0 P fn tmps R ds u' w
  | [], u, H, n, wr, U, H', n', wr', h => by
    simp only [evOut, OutR.ok.injEq] at h
    obtain ⟨rfl, rfl, rfl, rfl⟩ := h
    refine ⟨⟨.refl _ _ _, fun k hk => hk⟩, fun ds u' E0 w0 E w hd hu hH hl hs hg hf hgo => ?_⟩
    cases hd
    exact hgo E u' w (.refl E) (.refl E _) hu hH hs
  | .mark d :: df, u, H, n, wr, U, H', n', wr', h => by
    simp only [evOut] at h
    rcases hg : H.get d with _ | ob
    · simp [hg] at h
    cases ob with
    | defs =>
      simp only [hg] at h
      obtain ⟨⟨g1, g2⟩, hw⟩ := evOut_ok hrec (fn := fn) (tmps := tmps) (R := R) df u _ n _ U H' n' wr' h
      refine ⟨⟨⟨g1.le, fun k hk hkw => ?_, fun h0 => g1.low (h0.set (h0.lt (by rw [hg]; simp)) _)⟩, fun k hk => g2 k (by simp [hk])⟩, fun ds u' E0 w0 E w hd hu hH hl hs hgl hf hgo => ?_⟩
      · rw [g1.same k hk hkw, Tr.get_set_ne]; intro e; exact hkw (g2 k (by simp [e]))
      · cases hd
        rename_i l' hdm ht
        have hb : w.heap[E.ρ d]? = some (.deferred (some [])) := hH.obj d _ hg
        obtain ⟨k1, k2⟩ := hH.kill (w' := w.putObj (E.ρ d) (.deferred none)) hg ⟨rfl, rfl, rfl, by simp⟩ (fun b hb => World.putObj_heap_other hb)
        exact ⟨hu.ne, .inl ⟨E.ρ d, _, rfl, run_takeDeferred hb, hw l' u' E0 w0 E _ ht hu (by rw [get_gset]; exact k1) (hl.set (hl.lt (by rw [hg]; simp)) _) (hs.trans k2) hgl hf hgo⟩⟩
    | _ => simp [hg] at h
  | .call f cap args :: df, u, H, n, wr, U, H', n', wr', h => by
    simp only [evOut] at h
    cases hca : callable P f with
    | false => simp [hca] at h
    | true =>
      simp only [hca, cond_true] at h
      have key : ∀ (r : Res) (H1 : Tr AObj) (n1 : Nat) (wr1 : List Nat), (∃ v, r = .ret v H1 n1 wr1) ∨ (∃ ch, r = .pan ch H1 n1 wr1) → DcallOK P g0 f (args ++ cap) u H n r → evOut P rec df (resMode r) H1 n1 (wr1 ++ wr) = .ok U H' n' wr' →
          (Grw n n' H H' wr' ∧ ∀ k ∈ wr, k ∈ wr') ∧ ∀ (ds : List Deferred) (u' : FrameMode) (E0 : Env) (w0 : World) (E : Env) (w : World), DR E (.call f cap args :: df) ds → UR E u u' → HR P E H.get w → Low n H → Stp E0 E wr w0 w → (∀ g, g < g0 → E.dom g ∧ E.ρ g = g) → Free E n n' →
            (∀ E' U' w', Ext E E' → Took E E' n n' → UR E' U U' → HR P E' H'.get w' → Stp E0 E' wr' w0 w' → LeavesIn Fence.wide 0 P fn tmps R [] U' w') → LeavesInM Fence.wide 0 P fn tmps R ds u' w := by
        intro r H1 n1 wr1 hr hD h
        obtain ⟨⟨g1, g2⟩, hw⟩ := evOut_ok hrec (fn := fn) (tmps := tmps) (R := R) df _ H1 n1 (wr1 ++ wr) U H' n' wr' h
        have hgr : Grw n n1 H H1 wr1 := by rcases hr with ⟨v, rfl⟩ | ⟨ch, rfl⟩ <;> exact hD.1
        have hen : endN r n = n1 := by rcases hr with ⟨v, rfl⟩ | ⟨ch, rfl⟩ <;> rfl
        have hde : ∀ E w e u w', DEnd P E n w r e u w' → e ≠ .outgrown ∧ ∃ E', UR E' (resMode r) (modeBehind e u) ∧ Ext E E' ∧ Took E E' n n1 ∧ HR P E' H1.get w' ∧ Stp E E' wr1 w w' := by rcases hr with ⟨v, rfl⟩ | ⟨ch, rfl⟩ <;> exact fun _ _ _ _ _ h => h
        have hgr' : Grw n n1 H H1 (wr1 ++ wr) := ⟨hgr.le, fun k hk hkw => hgr.same k hk (fun h => hkw (by simp [h])), hgr.low⟩
        refine ⟨⟨hgr'.trans g1 g2, fun k hk => g2 k (by simp [hk])⟩, fun ds u' E0 w0 E w hd hu hH hl hs hgl hf hgo => ?_⟩
        cases hd
        rename_i cap' args' l' hc ha ht
        refine ⟨hu.ne, .inr ⟨(fun h => by cases h), .func f, cap', f, args' ++ cap', rfl, ?_, fun _ _ => trivial, ?_⟩⟩
        · obtain ⟨_, _, _, _, hrun⟩ := callable_spec hca
          simp [invoke, hrun]
        · rw [← hen] at hgr
          refine (hD.2 E w (args' ++ cap') u' hgl (by simp only [Array.toList_append]; exact ha.append hc) hu hH hl (by rw [hen]; exact hf.left g1.le)).mono fun e u'' w' he => ?_
          rw [hen] at hgr
          obtain ⟨hne, E1, q1, q2, q3, q4, q5⟩ := hde _ _ _ _ _ he
          have hrest := hw l' (modeBehind e u'') E0 w0 E1 w' (ht.ext q2) q1 q4 (hgr.low hl) (hs.trans q5) (fun g hg => ⟨q2.n g (hgl g hg).1, by rw [q2.ρ g (hgl g hg).1]; exact (hgl g hg).2⟩) (hf.right q3 hgr.le) (fun E' U' w'' r1 r2 r3 r4 r5 => hgo E' U' w'' (q2.trans r1) (q3.trans r2 hgr.le g1.le) r3 r4 r5)
          cases e with
          | returned v => exact hrest
          | panicked ch => exact hrest
          | outgrown => exact absurd rfl hne
      have ht := hrec (.dcall f (args ++ cap) u) ⟨.e, H, n, [], []⟩
      cases hr : rec (.dcall f (args ++ cap) u) ⟨.e, H, n, [], []⟩ with
      | bad m tr => simp [hr] at h
      | code x s => simp [hr] at h
      | ret v H1 n1 wr1 =>
        rw [hr] at h ht
        exact key (.ret v H1 n1 wr1) H1 n1 wr1 (.inl ⟨v, rfl⟩) ht h
      | pan ch H1 n1 wr1 =>
        rw [hr] at h ht
        exact key (.pan ch H1 n1 wr1) H1 n1 wr1 (.inr ⟨ch, rfl⟩) ht h

/-! ### results -/
theorem loadVar_ok {E : Env} {G : Gh} {w : World} (h : HR P E G w) {t : TypeId} {v u v' : Value} {us : List (Nat × Option AObj)} {k : Nat} (hl : aLoad P t v G = .val u us k) (hv : VR E v v') : ∃ a u', v' = .pointer (some a) ∧ (loadVar t a).run P w = .ok u' w ∧ VR E u u' := by
  unfold aLoad at hl
  split at hl
  · rename_i b off
    obtain ⟨hb, rfl⟩ := hv.ptr_inv
    rcases hg : G b with _ | ob
    · simp [hg] at hl
    cases ob with
    | cells c e =>
      simp only [hg] at hl
      have hor := h.obj b _ hg
      cases ha : aggT P t with
      | none => simp [ha] at hl
      | some ag =>
        cases ag with
        | false =>
          simp only [ha] at hl
          cases hc : c[off]? with
          | none => simp [hc] at hl
          | some u0 =>
            simp [hc] at hl
            obtain ⟨rfl, _, _⟩ := hl
            obtain ⟨v', h1, _, h3⟩ := or_cells_at hor off u0 hc
            exact ⟨_, v', rfl, by simp [loadVar, run_isAgg ha, run_load_at h1, -run_load], h3⟩
        | true =>
          simp only [ha] at hl
          cases hi : P.info? t with
          | none => simp [hi] at hl
          | some i =>
            simp only [hi] at hl
            cases hbl : (off + i.size).ble c.length with
            | false => simp [hbl] at hl
            | true =>
              simp only [hbl, cond_true, ORes.val.injEq] at hl
              obtain ⟨rfl, _, _⟩ := hl
              have hb' : off + i.size ≤ c.length := Nat.le_of_ble_eq_true hbl
              obtain ⟨arr, fr, h1, h2, h3, h4, h5, h6⟩ := hor
              have hsub : VL E ((c.drop off).take i.size) ((arr.toList.drop off).take i.size) := by
                have := (h6.drop off).take i.size
                rw [List.drop_take, List.take_take, Nat.min_eq_left (by omega)] at this
                exact this
              refine ⟨_, .agg ((arr.toList.drop off).take i.size).toArray, rfl, ?_, .agg _ _ (by simpa using hsub)⟩
              have hlen : ((arr.toList.drop off).take i.size).length = i.size := by simp; omega
              have hl := run_loadCells_list (P := P) w ⟨E.ρ b, off, none⟩ ((arr.toList.drop off).take i.size) (fun j u hj => by
                have hj' : j < i.size := by have := (List.getElem?_eq_some_iff.1 hj).1; omega
                rw [List.getElem?_take_of_lt hj', List.getElem?_drop] at hj
                rw [addr_add]; simp [World.cell?, h1]; simpa using hj)
              rw [hlen] at hl
              simp [loadVar, run_isAgg ha, sizeOf, typeInfo, hi, hl]
    | _ => simp [hg] at hl
  · cases hl

def resVar (tmps : Array Value) : ResultVar → Sem Value
  | .tmp t => pure (tmps.getD t undef)
  | .cell a t => do loadVar t (← asAddr (tmps.getD a undef))

theorem evResults_ok {E : Env} {s : Fs} {nt : Nat} {tmps : Array Value} {w : World} (hT : TR E s.T nt tmps) (hH : HR P E s.H.get w) : ∀ (l : List ResultVar) (vs : List Value), evResults P s l = some vs → ∃ vs', VL E vs vs' ∧ (l.mapM (resVar tmps)).run P w = .ok vs' w
  | [], vs, h => by simp [evResults] at h; subst h; exact ⟨[], .nil, by simp⟩
  | .tmp t :: l, vs, h => by
    simp only [evResults, Option.map_eq_some_iff] at h
    obtain ⟨r, hr, rfl⟩ := h
    obtain ⟨r', h1, h2⟩ := evResults_ok hT hH l r hr
    exact ⟨tmps.getD t undef :: r', .cons _ _ _ _ (hT.2 t) h1, by simp only [List.mapM_cons, resVar, Sem.run_bind, Sem.run_pure, Result.andThen_ok, h2]⟩
  | .cell a t :: l, vs, h => by
    simp only [evResults] at h
    split at h
    · rename_i v hl
      simp only [Option.map_eq_some_iff] at h
      obtain ⟨r, hr, rfl⟩ := h
      obtain ⟨r', h1, h2⟩ := evResults_ok hT hH l r hr
      obtain ⟨ad, u', he, hrun, hv⟩ := loadVar_ok hH hl (hT.2 a)
      refine ⟨u' :: r', .cons _ _ _ _ hv h1, ?_⟩
      simp only [List.mapM_cons, resVar, he, asAddr, Sem.run_bind, Sem.run_pure, Result.andThen_ok, hrun, h2]
    · cases h

theorem results_run {fn : Func} {tmps : Array Value} {w : World} {vs' : List Value} (h : (fn.results.toList.mapM (resVar tmps)).run P w = .ok vs' w) : (results fn tmps).run P w = .ok (tupleOf vs') w := by
  have e : results fn tmps = (do let vs ← fn.results.mapM (resVar tmps); pure (if h : vs.size = 1 then vs[0] else .tuple vs)) := by
    rfl
  rw [e, Array.mapM_eq_mapM_toList]
  simp only [Sem.run_bind, Sem.run_map, h, Result.andThen_ok, Sem.run_pure]
  congr 1
  unfold tupleOf
  match vs' with
  | [] => rfl
  | [v] => rfl
  | a :: b :: l => simp

theorem tupleOf_rel {E : Env} {vs vs' : List Value} (h : VL E vs vs') : VR E (tupleOf vs) (tupleOf vs') := by
  unfold tupleOf
  match vs, vs', h with
  | [], _, .nil => exact .tuple _ _ .nil
  | [v], _, .cons _ v' _ _ hv .nil => exact hv
  | a :: b :: l, _, .cons _ a' _ _ ha (.cons _ b' _ l' hb ht) => exact .tuple _ _ (.cons _ _ _ _ ha (.cons _ _ _ _ hb ht))

/-! ### the start -/
theorem tmpsOf_get : ∀ (l : List Value) (k : Nat) (T : Tr Value) (t : Nat), (tmpsOf l k T).get t = if k ≤ t ∧ t < k + l.length then l[t - k]? else T.get t
  | [], k, T, t => by simp only [tmpsOf]; rw [if_neg (by simp)]
  | v :: l, k, T, t => by
    rw [tmpsOf, tmpsOf_get l]
    simp only [List.length_cons]
    by_cases h1 : t = k
    · subst h1
      rw [if_neg (by omega), Tr.get_set_self, if_pos (by omega)]; simp
    · by_cases h2 : k + 1 ≤ t ∧ t < k + 1 + l.length
      · rw [if_pos h2, if_pos (by omega)]
        rw [show t - k = (t - (k + 1)) + 1 by omega]; simp
      · rw [if_neg h2, Tr.get_set_ne _ _ h1, if_neg (by omega)]

theorem tr_start {E : Env} {args : List Value} {args' : Array Value} (hv : VL E args args'.toList) (m : Nat) : TR E (tmpsOf args 0 .e) (args.length + (m - args.length)) (args' ++ Array.replicate (m - args'.size) undef) := by
  have hl : args.length = args'.size := by have := hv.length; simpa using this
  refine ⟨by simp [hl], fun t => ?_⟩
  rw [tmpsOf_get, Array.getD_eq_getD_getElem?]
  by_cases ht : t < args.length
  · rw [if_pos ⟨Nat.zero_le _, by omega⟩, Nat.sub_zero]
    obtain ⟨v', h1, h2⟩ := hv.at t args[t] (List.getElem?_eq_getElem ht)
    rw [List.getElem?_eq_getElem ht, Array.getElem?_append_left (by omega)]
    have : args'[t]? = some v' := by simpa using h1
    rw [this]; exact h2
  · rw [if_neg (by omega), Tr.get_e, Array.getElem?_append_right (by omega)]
    have : ((Array.replicate (m - args'.size) undef)[t - args'.size]?).getD undef = undef := by
      rw [Array.getElem?_replicate]; split <;> rfl
    simp only [this]; exact VR.undef

/-! ### functions -/
theorem modeOf_exR {E : Env} {x : Ex} {u : Option (List (Value × Bool))} (hm : modeOf x = some u) {e : Exit} (he : exR E x e) : ((e = .normal ∨ e = .ret) ∧ u = none) ∨ ∃ ch ch', e = .panic ch' ∧ u = some ch ∧ x = .pan ch ∧ CR E ch ch' := by
  cases x with
  | normal => cases e <;> first | exact False.elim he | skip
              simp [modeOf] at hm; exact .inl ⟨.inl rfl, hm.symm⟩
  | ret => cases e <;> first | exact False.elim he | skip
           simp [modeOf] at hm; exact .inl ⟨.inr rfl, hm.symm⟩
  | pan ch => cases e <;> first | exact False.elim he | skip
              simp [modeOf] at hm; exact .inr ⟨ch, _, rfl, hm.symm, rfl, he⟩
  | exit id => simp [modeOf] at hm
  | goto l => simp [modeOf] at hm

theorem evFn_ok (hrec : ∀ t s, TOK P g0 t s (rec t s)) {f : FuncId} {args : List Value} {H : Tr AObj} {n : Nat} {r : Res} (hr : evFn P rec f args H n = r) (hgood : ∀ m tr, r ≠ .bad m tr) : CallOK P g0 f args H n r := by
  unfold evFn at hr
  cases hf : P.funcs[f]? with
  | none => rw [hf] at hr; exact absurd hr.symm (hgood _ _)
  | some fn =>
    simp only [hf] at hr
    cases hb : fn.body with
    | none => rw [hb] at hr; exact absurd hr.symm (hgood _ _)
    | some c =>
      simp only [hb] at hr
      have hc := hrec (.code (args.length + (fn.ntmps - args.length)) none c) ⟨tmpsOf args 0 .e, H, n, [], []⟩
      generalize rec (.code (args.length + (fn.ntmps - args.length)) none c) ⟨tmpsOf args 0 .e, H, n, [], []⟩ = RR at hr hc
      cases RR with
      | bad m tr => exact absurd hr.symm (hgood _ _)
      | ret _ _ _ _ => exact absurd hr.symm (hgood _ _)
      | pan _ _ _ _ => exact absurd hr.symm (hgood _ _)
      | code x s =>
        obtain ⟨⟨g1, g1'⟩, hw⟩ := hc
        have g1 : Grw n s.n H s.H s.wr := g1
        simp only [] at hr
        cases hmode : modeOf x with
        | none => rw [hmode] at hr; exact absurd hr.symm (hgood _ _)
        | some u =>
          simp only [hmode] at hr
          cases ho : evOut P rec s.df u s.H s.n s.wr with
          | bad m tr => rw [ho] at hr; exact absurd hr.symm (hgood _ _)
          | ok U H' n' wr' =>
            simp only [ho] at hr
            obtain ⟨⟨g2, g2'⟩, _⟩ := evOut_ok hrec (fn := fn) (tmps := #[]) (R := fun _ _ => True) _ _ _ _ _ _ _ _ _ ho
            have g3 : Grw n n' H H' wr' := g1.trans g2 g2'
            have walk : ∀ (r : Res), endGrw n H r → endN r n = n' →
                (∀ (E E' : Env) (w w' : World) (U' : FrameMode) (a : Act), UR E' U U' → TR E' s.T (args.length + (fn.ntmps - args.length)) a.tmps → Ext E E' → Took E E' n n' → HR P E' H'.get w' → Stp E E' wr' w w' → Free E n n' → LeavesIn Fence.wide 0 P fn a.tmps (CallEnd P E n w r) [] U' w') → CallOK P g0 f args H n r := by
              intro r hg hn hgo
              refine ⟨hg, fun E w args' hgl hva hH hlow hfree => ?_⟩
              rw [hn] at hfree
              refine callsIn_of_wp_marks hf hb trivial ?_
              have hfr : FRm P g0 E w E (args.length + (fn.ntmps - args.length)) none ⟨tmpsOf args 0 .e, H, n, [], []⟩ { tmps := args' ++ Array.replicate (fn.ntmps - args'.size) undef, defers := [] } w :=
                ⟨tr_start hva _, hH, hlow, .refl E w, .nil, hgl, fun l e => by cases e⟩
              refine wpIn_mono (hw E w E _ w hfr (hfree.left g2.le)) ?_
              rintro e a' w' ⟨E', hxt, htk, hf', hex⟩
              have out : ∀ u', UR E' u u' → LeavesInM Fence.wide 0 P fn a'.tmps (CallEnd P E n w r) a'.defers u' w' := fun u' hu =>
                (evOut_ok hrec (fn := fn) (tmps := a'.tmps) (R := CallEnd P E n w r) _ _ _ _ _ _ _ _ _ ho).2 a'.defers u' E w E' w' hf'.df hu hf'.hr hf'.lw hf'.stp hf'.gl (hfree.right htk g1.le)
                  (fun E2 U' w'' r1 r2 r3 r4 r5 => hgo E E2 w w'' U' a' r3 (hf'.tr.ext r1) (hxt.trans r1) (htk.trans r2 g1.le g2.le) r4 r5 hfree)
              rcases modeOf_exR hmode hex with ⟨rfl | rfl, rfl⟩ | ⟨ch, ch', rfl, rfl, rfl, hch⟩
              · exact out .returning .none
              · exact out .returning .none
              · exact out (.panicking ch') (.some _ _ hch)
            cases U with
            | none =>
              simp only [] at hr
              cases hv : evResults P { s with H := H' } fn.results.toList with
              | none => rw [hv] at hr; exact absurd hr.symm (hgood _ _)
              | some vs =>
                rw [hv] at hr
                simp only [] at hr
                subst hr
                refine walk _ g3.own rfl (fun E E' w w' U' a hu hT hxt htk hH hs hfree => ?_)
                cases hu
                obtain ⟨vs', h1, h2⟩ := evResults_ok (s := { s with H := H' }) hT hH _ _ hv
                exact ⟨_, results_run h2, E', _, rfl, tupleOf_rel h1, hxt, htk, hH, hs.own hfree⟩
            | some ch =>
              simp only [] at hr
              subst hr
              refine walk _ g3.own rfl (fun E E' w w' U' a hu hT hxt htk hH hs hfree => ?_)
              cases hu
              rename_i ch' hch
              exact ⟨E', ch', rfl, hch, hxt, htk, hH, hs.own hfree⟩

/-! ### deferred calls -/
theorem wpSIn_mono {F : Fence} {n : Nat} {c : Code} {Q Q' : Exit → Act → List Frame → World → Prop} {a : Act} {cs : List Frame} {w : World} (h : c.wpSIn F n P Q a cs w) (hq : ∀ e a cs w, Q e a cs w → Q' e a cs w) : c.wpSIn F n P Q' a cs w :=
  fun b k h1 h2 h3 h4 => let ⟨e, a', cs', w', l, q, r⟩ := h b k h1 h2 h3 h4; ⟨e, a', cs', w', l, hq _ _ _ _ q, r⟩

def SPost (P : Program) (g0 : Nat) (E0 : Env) (w0 : World) (E : Env) (nt n : Nat) (x : Ex) (U : Option (List (Value × Bool))) (s1 : Fs) (c₀ : Frame) (cs : List Frame) : Exit → Act → List Frame → World → Prop := fun e a' cs' w' =>
  ∃ E' U', Ext E E' ∧ Took E E' n s1.n ∧ FRm P g0 E0 w0 E' nt none s1 a' w' ∧ exR E' x e ∧ UR E' U U' ∧ cs' = { c₀ with mode := U' } :: cs

def SOK (P : Program) (g0 nt : Nat) (c : Code) (u : Option (List (Value × Bool))) (s : Fs) (x : Ex) (U : Option (List (Value × Bool))) (s1 : Fs) : Prop :=
  (Grw s.n s1.n s.H s1.H s1.wr ∧ ∀ k ∈ s.wr, k ∈ s1.wr) ∧ ∀ (E0 : Env) (w0 : World) (E : Env) (a : Act) (w : World) (c₀ : Frame) (cs : List Frame), FRm P g0 E0 w0 E nt none s a w → Free E s.n s1.n → UR E u c₀.mode →
    c.wpSIn Fence.wide 0 P (SPost P g0 E0 w0 E nt s.n x U s1 c₀ cs) a (c₀ :: cs) w

theorem evS_leaf (hrec : ∀ t s, TOK P g0 t s (rec t s)) {nt : Nat} {c : Code} {u : Option (List (Value × Bool))} {s : Fs} {x : Ex} {U : Option (List (Value × Bool))} {s1 : Fs}
    (h : leafS rec nt c u s = .ok x U s1) : SOK P g0 nt c u s x U s1 := by
  unfold leafS at h
  have ht := hrec (.code nt none c) s
  cases hr : rec (.code nt none c) s with
  | bad m tr => simp [hr] at h
  | ret _ _ _ _ => simp [hr] at h
  | pan _ _ _ _ => simp [hr] at h
  | code x' s' =>
    rw [hr] at h ht
    simp only [SR.ok.injEq] at h
    obtain ⟨rfl, rfl, rfl⟩ := h
    obtain ⟨hg, hw⟩ := ht
    refine ⟨hg, fun E0 w0 E a w c₀ cs hf hfree hu => wpSIn_of_wpIn rfl (wpIn_mono (hw E0 w0 E a w hf hfree) ?_)⟩
    rintro e a' w' ⟨E', h1, h2, h3, h4⟩
    exact ⟨E', c₀.mode, h1, h2, h3, h4, hu.ext h1, rfl⟩

theorem isRecover_run {w : World} {evc : Operand → Value} {o : Oper} (h : isRecover o = true) : (execOp evc o).run P w = .ok .recover w := by
  unfold isRecover at h
  split at h
  · rename_i c ho
    split at h
    · rename_i hc
      simp [execOp, ho, resolve, hc, invoke]
      rfl
    · cases h
  · cases h

theorem recoverD_rel {E : Env} {u : Option (List (Value × Bool))} {c₀ : Frame} {cs : List Frame} (hu : UR E u c₀.mode) :
    (∀ v u', recA u = some (v, u') → ∃ v' m, recoverD (c₀ :: cs) = some (v', { c₀ with mode := m } :: cs) ∧ VR E v v' ∧ UR E u' m) ∧ (recA u = none → recoverD (c₀ :: cs) = none) := by
  simp only [recoverD]
  generalize c₀.mode = m at hu
  cases hu with
  | none => exact ⟨fun v u' h => by simp [recA] at h, fun _ => rfl⟩
  | some ch ch' h =>
    cases h with
    | nil => exact ⟨fun v u' h => by simp [recA] at h, fun _ => rfl⟩
    | cons v b p l l' hv hb hg t =>
      obtain ⟨pv, pr, pg⟩ := p
      simp only at hv hb hg
      subst hb hg
      cases pr with
      | true => exact ⟨fun v u' h => by simp [recA] at h, fun _ => rfl⟩
      | false =>
        refine ⟨fun v2 u' h => ?_, fun h => by simp [recA] at h⟩
        simp only [recA, Option.some.injEq, Prod.mk.injEq] at h
        obtain ⟨rfl, rfl⟩ := h
        exact ⟨pv, _, rfl, hv, .some _ _ (.cons _ _ _ _ _ hv rfl rfl t)⟩

theorem evOpsS_ok {nt : Nat} {ops : Array Oper} : ∀ (l : List Nat) (u : Option (List (Value × Bool))) (s : Fs) (x : Ex) (U : Option (List (Value × Bool))) (s1 : Fs), evOpsS P g0 nt ops l u s = .ok x U s1 →
    (Grw s.n s1.n s.H s1.H s1.wr ∧ ∀ k ∈ s.wr, k ∈ s1.wr) ∧ ∀ (E0 : Env) (w0 : World) (E : Env) (a : Act) (w : World) (c₀ : Frame) (cs : List Frame) (Q : Exit → Act → List Frame → World → Prop), FRm P g0 E0 w0 E nt none s a w → Free E s.n s1.n → UR E u c₀.mode →
      (∀ e a' cs' w', SPost P g0 E0 w0 E nt s.n x U s1 c₀ cs e a' cs' w' → Q e a' cs' w') → wpOpsSIn Fence.wide 0 P ops Q l a (c₀ :: cs) w := by
  intro l
  induction l with
  | nil =>
    intro u s x U s1 h
    simp only [evOpsS, SR.ok.injEq] at h
    obtain ⟨rfl, rfl, rfl⟩ := h
    exact ⟨⟨.refl _ _ _, fun k hk => hk⟩, fun E0 w0 E a w c₀ cs Q hf hfree hu hQ => hQ _ _ _ _ ⟨E, c₀.mode, .refl E, .refl E _, hf, trivial, hu, rfl⟩⟩
  | cons i l ih =>
    intro u s x U s1 h
    simp only [evOpsS] at h
    cases ho : ops[i]? with
    | none =>
      simp only [ho] at h
      obtain ⟨h1, h2⟩ := ih u s x U s1 h
      refine ⟨h1, fun E0 w0 E a w c₀ cs Q hf hfree hu hQ => ?_⟩
      simp only [wpOpsSIn, ho]; exact h2 E0 w0 E a w c₀ cs Q hf hfree hu hQ
    | some o =>
      simp only [ho] at h
      cases hg : guardOk ops s.T o with
      | false =>
        simp only [hg, cond_false] at h
        cases hp : putT nt s.T o.dst undef with
        | none => simp [hp] at h
        | some T' =>
          simp only [hp] at h
          obtain ⟨h1, h2⟩ := ih _ _ x U s1 h
          refine ⟨h1, fun E0 w0 E a w c₀ cs Q hf hfree hu hQ => ?_⟩
          simp only [wpOpsSIn, ho]
          rw [if_neg (by rw [guard_eq hf.tr ops o, hg]; simp)]
          exact ⟨fun f _ => trivial, h2 E0 w0 E (a.put o.dst undef) w c₀ cs Q ⟨hf.tr.put VR.undef hp, hf.hr, hf.lw, hf.stp, by rw [put_defers]; exact hf.df, hf.gl, hf.rd⟩ hfree hu hQ⟩
      | true =>
        simp only [hg, cond_true] at h
        cases hrc : isRecover o with
        | true =>
          simp only [hrc, cond_true] at h
          cases hra : recA u with
          | none =>
            simp only [hra] at h
            cases hp : putT nt s.T o.dst .nilIface with
            | none => simp [hp] at h
            | some T' =>
              simp only [hp] at h
              obtain ⟨h1, h2⟩ := ih _ _ x U s1 h
              refine ⟨h1, fun E0 w0 E a w c₀ cs Q hf hfree hu hQ => ?_⟩
              simp only [wpOpsSIn, ho]
              rw [if_pos (by rw [guard_eq hf.tr ops o, hg]), isRecover_run hrc]
              simp only [(recoverD_rel (cs := cs) hu).2 hra]
              exact ⟨fun f _ => trivial, h2 E0 w0 E (a.put o.dst .nilIface) w c₀ cs Q ⟨hf.tr.put .inil hp, hf.hr, hf.lw, hf.stp, by rw [put_defers]; exact hf.df, hf.gl, hf.rd⟩ hfree hu hQ⟩
          | some vu =>
            obtain ⟨v, u'⟩ := vu
            simp only [hra] at h
            cases hp : putT nt s.T o.dst v with
            | none => simp [hp] at h
            | some T' =>
              simp only [hp] at h
              obtain ⟨h1, h2⟩ := ih _ _ x U s1 h
              refine ⟨h1, fun E0 w0 E a w c₀ cs Q hf hfree hu hQ => ?_⟩
              simp only [wpOpsSIn, ho]
              rw [if_pos (by rw [guard_eq hf.tr ops o, hg]), isRecover_run hrc]
              obtain ⟨v', m, q1, q2, q3⟩ := (recoverD_rel (cs := cs) hu).1 v u' hra
              simp only [q1]
              exact ⟨fun f _ => trivial, h2 E0 w0 E (a.put o.dst v') w { c₀ with mode := m } cs Q ⟨hf.tr.put q2 hp, hf.hr, hf.lw, hf.stp, by rw [put_defers]; exact hf.df, hf.gl, hf.rd⟩ hfree q3 hQ⟩
        | false =>
          simp only [hrc, cond_false] at h
          cases hok : (okOps g0 o && !(isDefer o) && (isCall o).isNone) with
          | false => simp [hok] at h
          | true =>
            simp only [hok, cond_true] at h
            simp only [Bool.and_eq_true] at hok
            have hopx : ∀ x ∈ o.op.operands, okX g0 x = true := fun x hx => List.all_eq_true.1 hok.1.1 x (by simpa using hx)
            cases ha : aop P o (aev s.T) s.H.get s.n with
            | bad m => simp [ha] at h
            | pan v =>
              simp only [ha, SR.ok.injEq] at h
              obtain ⟨rfl, rfl, rfl⟩ := h
              refine ⟨⟨Grw.refl _ _ _, fun k hk => hk⟩, fun E0 w0 E a w c₀ cs Q hf hfree hu hQ => ?_⟩
              have hs := aop_ok (n := s.n) hf.hr (o := o) (fun x hx => aev_rel hf.tr hf.gl (hopx x hx))
              rw [ha] at hs
              obtain ⟨v', w1, hrun, hv, hw⟩ := hs
              simp only [wpOpsSIn, ho]
              rw [if_pos (by rw [guard_eq hf.tr ops o, hg]), hrun]
              refine ⟨fun f _ => trivial, hQ _ _ _ _ ⟨E, c₀.mode, .refl E, .refl E _, ?_, .cons _ _ _ _ _ hv rfl rfl .nil, hu, rfl⟩⟩
              rcases hw with rfl | rfl
              · exact hf
              · exact ⟨hf.tr, hf.hr.drew, hf.lw, hf.stp.drew _, hf.df, hf.gl, hf.rd⟩
            | val v us k =>
              simp only [ha] at h
              cases hky : keysOk s.n k us s.H.get with
              | false => simp [hky] at h
              | true =>
              simp only [hky, cond_true] at h
              cases hp : putT nt s.T o.dst v with
              | none => simp [hp] at h
              | some T' =>
                simp only [hp] at h
                obtain ⟨⟨g2, g2'⟩, h2⟩ := ih _ _ x U s1 h
                have g1 : Grw s.n (s.n + k) s.H (applyUs s.H us) (us.map (·.1) ++ s.wr) := ⟨Nat.le_add_right _ _, fun k hk hkw => by
                  rw [applyUs_get]; exact upd_out _ _ _ (fun h => hkw (by simp only [List.mem_append]; exact .inl h)), fun h0 => keysOk_low h0 (keysOk_lt hky (fun j hj => h0.lt hj))⟩
                refine ⟨⟨g1.trans g2 g2', fun k hk => g2' k (by simp only [List.mem_append]; exact .inr hk)⟩, fun E0 w0 E a w c₀ cs Q hf hfree hu hQ => ?_⟩
                have hs := aop_ok (n := s.n) hf.hr (o := o) (fun x hx => aev_rel hf.tr hf.gl (hopx x hx))
                rw [ha] at hs
                obtain ⟨nx, w', E1, hrun, hnx, hdom, hH, hst, _⟩ := hs (fun hk => hfree s.n (Nat.le_refl _) (by have hq : s.n + k ≤ s1.n := g2.le; show _ < s1.n; omega))
                simp only [wpOpsSIn, ho]
                rw [if_pos (by rw [guard_eq hf.tr ops o, hg]), hrun]
                have hx := hst.ext
                have fin : ∀ v', VR E1 v v' → wpOpsSIn Fence.wide 0 P ops Q l (a.put o.dst v') (c₀ :: cs) w' := fun v' hv => h2 E0 w0 E1 (a.put o.dst v') w' c₀ cs Q
                  ⟨(hf.tr.ext hx).put hv hp, by show HR P E1 (applyUs s.H us).get w'; rw [applyUs_get]; exact hH, keysOk_low hf.lw (keysOk_lt hky (fun j hj => hf.lw.lt hj)), hf.stp.trans hst, by rw [put_defers]; exact hf.df.ext hx, fun g hg => ⟨hx.n g (hf.gl g hg).1, by rw [hx.ρ g (hf.gl g hg).1]; exact (hf.gl g hg).2⟩, fun l hl => hx.n l (hf.rd l hl)⟩
                  (hfree.right hdom (Nat.le_add_right _ _)) (hu.ext hx) (fun e a' cs' w'' ⟨E2, U', r1, r2, r3, r4, r5, r6⟩ => hQ _ _ _ _ ⟨E2, U', hx.trans r1, Took.trans hdom r2 (Nat.le_add_right _ _) g2.le, r3, r4, r5, r6⟩)
                rcases hnx with ⟨v', rfl, hv⟩ | ⟨rfl, rfl⟩
                · exact ⟨fun f _ => trivial, fin v' hv⟩
                · exact ⟨fun f _ => trivial, fin undef VR.undef⟩

theorem evS_ok (hrec : ∀ t s, TOK P g0 t s (rec t s)) {nt : Nat} : ∀ (c : Code) (u : Option (List (Value × Bool))) (s : Fs) (x : Ex) (U : Option (List (Value × Bool))) (s1 : Fs), evS P g0 rec nt c u s = .ok x U s1 → SOK P g0 nt c u s x U s1 := by
  intro c
  induction c with
  | seq A B iha ihb =>
    intro u s x U s2 h
    simp only [evS] at h
    cases ha : evS P g0 rec nt A u s with
    | bad m tr => simp [ha] at h
    | ok x1 u1 s1 =>
      obtain ⟨⟨ga, ga'⟩, hwa⟩ := iha u s x1 u1 s1 ha
      have rest : x1 ≠ .normal → SR.ok x1 u1 s1 = .ok x U s2 → SOK P g0 nt (.seq A B) u s x U s2 := by
        intro hx1 h
        simp only [SR.ok.injEq] at h
        obtain ⟨rfl, rfl, rfl⟩ := h
        refine ⟨⟨ga, ga'⟩, fun E0 w0 E a w c₀ cs hf hfree hu => wpSIn_seq (wpSIn_mono (hwa E0 w0 E a w c₀ cs hf hfree hu) ?_)⟩
        rintro e a' cs' w' ⟨E1, U1, r1, r2, r3, r4, r5, r6⟩
        cases e <;> first | exact ⟨E1, U1, r1, r2, r3, r4, r5, r6⟩ | skip
        cases x1 <;> first | exact False.elim r4 | exact absurd rfl hx1
      cases x1 with
      | normal =>
        simp only [ha] at h
        obtain ⟨⟨gb, gb'⟩, hwb⟩ := ihb u1 s1 x U s2 h
        refine ⟨⟨ga.trans gb gb', fun k hk => gb' k (ga' k hk)⟩, fun E0 w0 E a w c₀ cs hf hfree hu => wpSIn_seq (wpSIn_mono (hwa E0 w0 E a w c₀ cs hf (hfree.left gb.le) hu) ?_)⟩
        rintro e a' cs' w' ⟨E1, U1, r1, r2, r3, r4, r5, rfl⟩
        cases e <;> first | exact False.elim r4 | skip
        refine wpSIn_mono (hwb E0 w0 E1 a' w' { c₀ with mode := U1 } cs r3 (hfree.right r2 ga.le) r5) ?_
        rintro e2 a2 cs2 w2 ⟨E2, U2, q1, q2, q3, q4, q5, rfl⟩
        exact ⟨E2, U2, r1.trans q1, r2.trans q2 ga.le gb.le, q3, q4, q5, rfl⟩
      | exit id => simp only [ha] at h; exact rest (by simp) h
      | goto l => simp only [ha] at h; exact rest (by simp) h
      | ret => simp only [ha] at h; exact rest (by simp) h
      | pan ch => simp only [ha] at h; exact rest (by simp) h
  | region id ops d =>
    intro u s x U s1 h
    simp only [evS] at h
    cases hc : (ops.toList.any isRecover && !d) with
    | true =>
      simp only [hc, cond_true] at h
      simp only [Bool.and_eq_true, Bool.not_eq_true'] at hc
      obtain ⟨_, rfl⟩ := hc
      obtain ⟨h1, h2⟩ := evOpsS_ok _ _ _ _ _ _ h
      exact ⟨h1, fun E0 w0 E a w c₀ cs hf hfree hu => wpSIn_region (h2 E0 w0 E a w c₀ cs _ hf hfree hu (fun _ _ _ _ h => h))⟩
    | false =>
      simp only [hc, cond_false] at h
      exact evS_leaf hrec h
  | _ =>
    intro u s x U s1 h
    exact evS_leaf hrec (by simpa only [evS] using h)

theorem settle_rel {E : Env} {u : Option (List (Value × Bool))} {m : FrameMode} (h : UR E u m) : UR E (settleA u) (settle m) := by
  cases h with
  | none => exact .none
  | some ch ch' h =>
    cases h with
    | nil => exact .some _ _ .nil
    | cons v b p l l' hv hb hg t =>
      have hall : ∀ {l : List (Value × Bool)} {l' : List PanicEntry}, CR E l l' → l'.dropWhile (!·.goexit) = [] := by
        intro l l' h
        induction h with
        | nil => rfl
        | cons v b p l l' hv hb hg t ih => simp [List.dropWhile, hg, ih]
      obtain ⟨pv, pr, pg⟩ := p
      simp only at hv hb hg
      subst hb hg
      cases pr with
      | true => simp only [settle, settleA, hall t]; exact .none
      | false => exact .some _ _ (.cons _ _ _ _ _ hv rfl rfl t)

theorem CR.append {E : Env} {a b : List (Value × Bool)} {a' b' : List PanicEntry} (h : CR E a a') (k : CR E b b') : CR E (a ++ b) (a' ++ b') := by
  induction h with
  | nil => exact k
  | cons v b p l l' hv hb hg t ih => exact .cons _ _ _ _ _ hv hb hg ih

theorem raised_rel {E : Env} {u : Option (List (Value × Bool))} {m : FrameMode} (h : UR E u m) {ch : List (Value × Bool)} {ch' : List PanicEntry} (hc : CR E ch ch') : UR E (some (raisedA u ch)) (raised m ch') := by
  cases h with
  | none => exact .some _ _ hc
  | some o o' h => exact .some _ _ (hc.append h)

theorem evDcall_ok (hrec : ∀ t s, TOK P g0 t s (rec t s)) {f : FuncId} {args : List Value} {u : Option (List (Value × Bool))} {H : Tr AObj} {n : Nat} {r : Res} (hr : evDcall P g0 rec f args u H n = r) (hgood : ∀ m tr, r ≠ .bad m tr) : DcallOK P g0 f args u H n r := by
  unfold evDcall at hr
  cases hf : P.funcs[f]? with
  | none => rw [hf] at hr; exact absurd hr.symm (hgood _ _)
  | some fn =>
    simp only [hf] at hr
    cases hb : fn.body with
    | none => rw [hb] at hr; exact absurd hr.symm (hgood _ _)
    | some c =>
      simp only [hb] at hr
      cases hs : evS P g0 rec (args.length + (fn.ntmps - args.length)) c u ⟨tmpsOf args 0 .e, H, n, [], []⟩ with
      | bad m tr => rw [hs] at hr; exact absurd hr.symm (hgood _ _)
      | ok x U s =>
        simp only [hs] at hr
        cases hdf : s.df with
        | cons d l => rw [hdf] at hr; exact absurd hr.symm (hgood _ _)
        | nil =>
          simp only [hdf] at hr
          obtain ⟨⟨g1, g1'⟩, hw⟩ := evS_ok hrec _ _ _ _ _ _ hs
          have g1 : Grw n s.n H s.H s.wr := g1
          cases hmode : modeOf x with
          | none => rw [hmode] at hr; exact absurd hr.symm (hgood _ _)
          | some u1 =>
            simp only [hmode] at hr
            have walk : ∀ (r : Res), endGrw n H r → endN r n = s.n →
                (∀ (E E' : Env) (w w' : World) (U' : FrameMode) (a : Act) (c₀ : Frame) (cs : List Frame) (e : Exit), UR E' U U' → exR E' x e → a.defers = [] → TR E' s.T (args.length + (fn.ntmps - args.length)) a.tmps → Ext E E' → Took E E' n s.n → HR P E' s.H.get w' → Stp E E' s.wr w w' → Free E n s.n → bodyPostS P fn c₀ cs (DEnd P E n w r) e a ({ c₀ with mode := U' } :: cs) w') → DcallOK P g0 f args u H n r := by
              intro r hg hn hgo
              refine ⟨hg, fun E w args' u' hgl hva hu hH hlow hfree => ?_⟩
              rw [hn] at hfree
              refine callsDIn_of_wpSIn hf hb trivial fun c₀ cs hm => ?_
              have hfr : FRm P g0 E w E (args.length + (fn.ntmps - args.length)) none ⟨tmpsOf args 0 .e, H, n, [], []⟩ { tmps := args' ++ Array.replicate (fn.ntmps - args'.size) undef, defers := [] } w :=
                ⟨tr_start hva _, hH, hlow, .refl E w, .nil, hgl, fun l e => by cases e⟩
              refine wpSIn_mono (hw E w E _ w c₀ cs hfr hfree (hm ▸ hu)) ?_
              rintro e a' cs' w' ⟨E', U', hxt, htk, hf', hex, hU, rfl⟩
              have hde : a'.defers = [] := by have hd := hf'.df; rw [hdf] at hd; generalize a'.defers = dd at hd; cases hd; rfl
              exact hgo E E' w w' U' a' c₀ cs e hU hex hde hf'.tr hxt htk hf'.hr hf'.stp hfree
            cases u1 with
            | none =>
              simp only [] at hr
              cases hv : evResults P s fn.results.toList with
              | none => rw [hv] at hr; exact absurd hr.symm (hgood _ _)
              | some vs =>
                rw [hv] at hr
                simp only [] at hr
                have fin : ∀ (r : Res), (r = .ret undef s.H s.n (own n s.n s.wr) ∨ ∃ ch, r = .pan ch s.H s.n (own n s.n s.wr)) → resMode r = settleA U → DcallOK P g0 f args u H n r := by
                  intro r hr hm
                  refine walk r (by rcases hr with rfl | ⟨ch, rfl⟩ <;> exact g1.own) (by rcases hr with rfl | ⟨ch, rfl⟩ <;> rfl) (fun E E' w w' U' a c₀ cs e hU hex hde hT hxt htk hH hst hfree => ?_)
                  obtain ⟨vs', h1, h2⟩ := evResults_ok (s := s) hT hH _ _ hv
                  have hend : DEnd P E n w r (.returned (tupleOf vs')) U' w' := by
                    have hU' := settle_rel hU
                    rw [← hm] at hU'
                    rcases hr with rfl | ⟨ch, rfl⟩ <;> exact ⟨by simp, E', hU', hxt, htk, hH, hst.own hfree⟩
                  rcases modeOf_exR hmode hex with ⟨rfl | rfl, _⟩ | ⟨ch, ch', rfl, h, _⟩
                  · exact ⟨hde, U', rfl, _, results_run h2, hend⟩
                  · exact ⟨hde, U', rfl, _, results_run h2, hend⟩
                  · cases h
                cases hse : settleA U with
                | none => rw [hse] at hr; simp only [] at hr; subst hr; exact fin _ (.inl rfl) (by rw [hse]; rfl)
                | some ch => rw [hse] at hr; simp only [] at hr; subst hr; exact fin _ (.inr ⟨ch, rfl⟩) (by rw [hse]; rfl)
            | some ch =>
              simp only [] at hr
              subst hr
              refine walk _ g1.own rfl (fun E E' w w' U' a c₀ cs e hU hex hde hT hxt htk hH hst hfree => ?_)
              rcases modeOf_exR hmode hex with ⟨_, h⟩ | ⟨ch2, ch', rfl, h, _, hch⟩
              · cases h
              · cases h
                exact ⟨hde, U', rfl, ⟨by simp, E', raised_rel hU hch, hxt, htk, hH, hst.own hfree⟩⟩
end
end Go.Proofs.YtgfjmkjhjfmbeaaGreat
