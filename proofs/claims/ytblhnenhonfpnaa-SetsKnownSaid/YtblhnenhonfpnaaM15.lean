/- DERIVED. The machine M, fifteenth part: functions, code. -/
import Derived.Test.YtblhnenhonfpnaaM14
namespace Go.Proofs.Ytblhnenhonfpnaa
open Go.RowKit

section
variable {P : Program} {g0 : Nat} {rec : Task → Fs → Res}

/-- A name dies. -/
theorem HR.kill {E : Env} {G : Gh} {w w' : World} (h : HR P E G w) {id : Nat} {o : AObj} (hg : G id = some o) (hw : w'.os = w.os ∧ w'.tape = w.tape ∧ w'.output = w.output ∧ w'.heap.size = w.heap.size)
    (hb : ∀ b, b ≠ E.ρ id → w'.heap[b]? = w.heap[b]?) : HR P E (gset G id none) w' ∧ Stp E E [id] w w' := by
  have hl := h.live (id := id) (by rw [hg]; simp)
  have key : ∀ k x, gset G id none k = some x → k ≠ id ∧ G k = some x := fun k x hx => by
    have hx : (if k = id then none else G k) = some x := hx
    by_cases he : k = id
    · rw [if_pos he] at hx; cases hx
    · rw [if_neg he] at hx; exact ⟨he, hx⟩
  have key2 : ∀ k, gset G id none k ≠ none → k ≠ id ∧ G k ≠ none := fun k hk => by
    cases hx : gset G id none k with
    | none => exact absurd hx hk
    | some x => exact ⟨(key k x hx).1, by rw [(key k x hx).2]; simp⟩
  refine ⟨⟨fun k hk => by rw [hw.2.2.2]; exact h.lt k hk, fun k hk => ?_, fun k x hx => ?_, fun i j hi hj e => h.inj i j (key2 i hi).2 (key2 j hj).2 e⟩,
    ⟨.refl E, hw.1, hw.2.1, hw.2.2.1, Nat.le_of_eq hw.2.2.2.symm, fun b _ hx => hb b (fun e => hx id (by simp) hl e.symm), fun k h1 h2 => absurd h2 h1⟩⟩
  · show (if _ then _ else _) = none
    split
    · rfl
    · exact h.dom k hk
  · obtain ⟨h1, h2⟩ := key k x hx
    exact (h.obj k x h2).mono (.refl E) (h.live (by rw [h2]; simp)) (hb _ (fun e => h1 (h.inj k id (by rw [h2]; simp) (by rw [hg]; simp) e)))

theorem evOut_ok {E0 E : Env} {w0 : World} {fn : Func} {tmps : Array Value} {R : Ending → World → Prop} {u : FrameMode} (hu : u ≠ .run) : ∀ (df : List ADf) (ds : List Deferred) (H : Tr AObj) (wr : List Nat) (H' : Tr AObj) (wr' : List Nat) (w : World), evOut df H wr = some (H', wr') → DR E df ds →
    HR P E H.get w → Stp E0 E wr w0 w → (∀ w', HR P E H'.get w' → Stp E0 E wr' w0 w' → LeavesIn Fence.wide 0 P fn tmps R [] u w') → LeavesInM Fence.wide 0 P fn tmps R ds u w
  | [], _, H, wr, H', wr', w, h, .nil, hH, hs, hgo => by
    simp [evOut] at h; obtain ⟨rfl, rfl⟩ := h; exact hgo w hH hs
  | .mark d :: df, _, H, wr, H', wr', w, h, .mark _ _ l' hd ht, hH, hs, hgo => by
    simp only [evOut] at h
    rcases hg : H.get d with _ | ob
    · simp [hg] at h
    cases ob with
    | defs =>
      simp only [hg] at h
      have hb : w.heap[E.ρ d]? = some (.deferred (some [])) := hH.obj d _ hg
      obtain ⟨k1, k2⟩ := hH.kill (w' := w.putObj (E.ρ d) (.deferred none)) hg ⟨rfl, rfl, rfl, by simp⟩ (fun b hb => World.putObj_heap_other hb)
      exact ⟨hu, .inl ⟨E.ρ d, _, rfl, run_takeDeferred hb, evOut_ok hu df l' _ _ H' wr' _ h ht (by rw [get_gset]; exact k1) (hs.trans k2) hgo⟩⟩
    | _ => simp [hg] at h
  | .call f c a :: df, _, H, wr, H', wr', w, h, .call _ _ _ _ _ _ _ _ _ _, hH, hs, hgo => by simp [evOut] at h

theorem evOut_grw : ∀ (df : List ADf) (H : Tr AObj) (wr : List Nat) (H' : Tr AObj) (wr' : List Nat), evOut df H wr = some (H', wr') → (∀ k ∈ wr, k ∈ wr') ∧ (∀ k, k ∉ wr' → H'.get k = H.get k) ∧ ∀ n, Low n H → Low n H'
  | [], H, wr, H', wr', h => by simp [evOut] at h; obtain ⟨rfl, rfl⟩ := h; exact ⟨fun k hk => hk, fun _ _ => rfl, fun _ h => h⟩
  | .mark d :: df, H, wr, H', wr', h => by
    simp only [evOut] at h
    rcases hg : H.get d with _ | ob
    · simp [hg] at h
    cases ob with
    | defs =>
      simp only [hg] at h
      obtain ⟨h1, h2, h3⟩ := evOut_grw df _ _ _ _ h
      exact ⟨fun k hk => h1 k (by simp [hk]), fun k hk => by rw [h2 k hk, Tr.get_set_ne]; intro e; exact hk (h1 k (by simp [e])), fun n hn => h3 n (hn.set (hn.lt (by rw [hg]; simp)) _)⟩
    | _ => simp [hg] at h
  | .call f c a :: df, H, wr, H', wr', h => by simp [evOut] at h

/-! ### results -/
theorem loadVar_ok {E : Env} {G : Gh} {w : World} (h : HR P E G w) {t : TypeId} {v u v' : Value} {us : List (Nat × Option AObj)} {k : Nat} (hl : aLoad P t v G = .val u us k) (hv : VR E v v') : ∃ a u', v' = .pointer (some a) ∧ (loadVar t a).run P w = .ok u' w ∧ VR E u u' := by
  unfold aLoad at hl
  split at hl
  · rename_i b off
    obtain ⟨hb, rfl⟩ := hv.ptr_inv
    rcases hg : G b with _ | ob
    · simp [hg] at hl
    cases ob with
    | cells c e =>
      simp only [hg] at hl
      have hor := h.obj b _ hg
      cases ha : aggT P t with
      | none => simp [ha] at hl
      | some ag =>
        cases ag with
        | false =>
          simp only [ha] at hl
          cases hc : c[off]? with
          | none => simp [hc] at hl
          | some u0 =>
            simp [hc] at hl
            obtain ⟨rfl, _, _⟩ := hl
            obtain ⟨v', h1, _, h3⟩ := or_cells_at hor off u0 hc
            exact ⟨_, v', rfl, by simp [loadVar, run_isAgg ha, run_load_at h1, -run_load], h3⟩
        | true =>
          simp only [ha] at hl
          cases hi : P.info? t with
          | none => simp [hi] at hl
          | some i =>
            simp only [hi] at hl
            cases hbl : (off + i.size).ble c.length with
            | false => simp [hbl] at hl
            | true =>
              simp only [hbl, cond_true, ORes.val.injEq] at hl
              obtain ⟨rfl, _, _⟩ := hl
              have hb' : off + i.size ≤ c.length := Nat.le_of_ble_eq_true hbl
              obtain ⟨arr, fr, h1, h2, h3, h4, h5, h6⟩ := hor
              have hsub : VL E ((c.drop off).take i.size) ((arr.toList.drop off).take i.size) := by
                have := (h6.drop off).take i.size
                rw [List.drop_take, List.take_take, Nat.min_eq_left (by omega)] at this
                exact this
              refine ⟨_, .agg ((arr.toList.drop off).take i.size).toArray, rfl, ?_, .agg _ _ (by simpa using hsub)⟩
              have hlen : ((arr.toList.drop off).take i.size).length = i.size := by simp; omega
              have hl := run_loadCells_list (P := P) w ⟨E.ρ b, off, none⟩ ((arr.toList.drop off).take i.size) (fun j u hj => by
                have hj' : j < i.size := by have := (List.getElem?_eq_some_iff.1 hj).1; omega
                rw [List.getElem?_take_of_lt hj', List.getElem?_drop] at hj
                rw [addr_add]; simp [World.cell?, h1]; simpa using hj)
              rw [hlen] at hl
              simp [loadVar, run_isAgg ha, sizeOf, typeInfo, hi, hl]
    | _ => simp [hg] at hl
  · cases hl

def resVar (tmps : Array Value) : ResultVar → Sem Value
  | .tmp t => pure (tmps.getD t undef)
  | .cell a t => do loadVar t (← asAddr (tmps.getD a undef))

theorem evResults_ok {E : Env} {s : Fs} {nt : Nat} {tmps : Array Value} {w : World} (hT : TR E s.T nt tmps) (hH : HR P E s.H.get w) : ∀ (l : List ResultVar) (vs : List Value), evResults P s l = some vs → ∃ vs', VL E vs vs' ∧ (l.mapM (resVar tmps)).run P w = .ok vs' w
  | [], vs, h => by simp [evResults] at h; subst h; exact ⟨[], .nil, by simp⟩
  | .tmp t :: l, vs, h => by
    simp only [evResults, Option.map_eq_some_iff] at h
    obtain ⟨r, hr, rfl⟩ := h
    obtain ⟨r', h1, h2⟩ := evResults_ok hT hH l r hr
    exact ⟨tmps.getD t undef :: r', .cons _ _ _ _ (hT.2 t) h1, by simp only [List.mapM_cons, resVar, Sem.run_bind, Sem.run_pure, Result.andThen_ok, h2]⟩
  | .cell a t :: l, vs, h => by
    simp only [evResults] at h
    split at h
    · rename_i v hl
      simp only [Option.map_eq_some_iff] at h
      obtain ⟨r, hr, rfl⟩ := h
      obtain ⟨r', h1, h2⟩ := evResults_ok hT hH l r hr
      obtain ⟨ad, u', he, hrun, hv⟩ := loadVar_ok hH hl (hT.2 a)
      refine ⟨u' :: r', .cons _ _ _ _ hv h1, ?_⟩
      simp only [List.mapM_cons, resVar, he, asAddr, Sem.run_bind, Sem.run_pure, Result.andThen_ok, hrun, h2]
    · cases h

theorem results_run {fn : Func} {tmps : Array Value} {w : World} {vs' : List Value} (h : (fn.results.toList.mapM (resVar tmps)).run P w = .ok vs' w) : (results fn tmps).run P w = .ok (tupleOf vs') w := by
  have e : results fn tmps = (do let vs ← fn.results.mapM (resVar tmps); pure (if h : vs.size = 1 then vs[0] else .tuple vs)) := by
    rfl
  rw [e, Array.mapM_eq_mapM_toList]
  simp only [Sem.run_bind, Sem.run_map, h, Result.andThen_ok, Sem.run_pure]
  congr 1
  unfold tupleOf
  match vs' with
  | [] => rfl
  | [v] => rfl
  | a :: b :: l => simp

theorem tupleOf_rel {E : Env} {vs vs' : List Value} (h : VL E vs vs') : VR E (tupleOf vs) (tupleOf vs') := by
  unfold tupleOf
  match vs, vs', h with
  | [], _, .nil => exact .tuple _ _ .nil
  | [v], _, .cons _ v' _ _ hv .nil => exact hv
  | a :: b :: l, _, .cons _ a' _ _ ha (.cons _ b' _ l' hb ht) => exact .tuple _ _ (.cons _ _ _ _ ha (.cons _ _ _ _ hb ht))

/-! ### the start -/
theorem tmpsOf_get : ∀ (l : List Value) (k : Nat) (T : Tr Value) (t : Nat), (tmpsOf l k T).get t = if k ≤ t ∧ t < k + l.length then l[t - k]? else T.get t
  | [], k, T, t => by simp only [tmpsOf]; rw [if_neg (by simp)]
  | v :: l, k, T, t => by
    rw [tmpsOf, tmpsOf_get l]
    simp only [List.length_cons]
    by_cases h1 : t = k
    · subst h1
      rw [if_neg (by omega), Tr.get_set_self, if_pos (by omega)]; simp
    · by_cases h2 : k + 1 ≤ t ∧ t < k + 1 + l.length
      · rw [if_pos h2, if_pos (by omega)]
        rw [show t - k = (t - (k + 1)) + 1 by omega]; simp
      · rw [if_neg h2, Tr.get_set_ne _ _ h1, if_neg (by omega)]

theorem tr_start {E : Env} {args : List Value} {args' : Array Value} (hv : VL E args args'.toList) (m : Nat) : TR E (tmpsOf args 0 .e) (args.length + (m - args.length)) (args' ++ Array.replicate (m - args'.size) undef) := by
  have hl : args.length = args'.size := by have := hv.length; simpa using this
  refine ⟨by simp [hl], fun t => ?_⟩
  rw [tmpsOf_get, Array.getD_eq_getD_getElem?]
  by_cases ht : t < args.length
  · rw [if_pos ⟨Nat.zero_le _, by omega⟩, Nat.sub_zero]
    obtain ⟨v', h1, h2⟩ := hv.at t args[t] (List.getElem?_eq_getElem ht)
    rw [List.getElem?_eq_getElem ht, Array.getElem?_append_left (by omega)]
    have : args'[t]? = some v' := by simpa using h1
    rw [this]; exact h2
  · rw [if_neg (by omega), Tr.get_e, Array.getElem?_append_right (by omega)]
    have : ((Array.replicate (m - args'.size) undef)[t - args'.size]?).getD undef = undef := by
      rw [Array.getElem?_replicate]; split <;> rfl
    simp only [this]; exact VR.undef

/-! ### functions -/
def exitOf : FrameMode → Ex → Exit
  | .returning, .ret => .ret
  | .returning, _ => .normal
  | .panicking ch, _ => .panic ch
  | .run, _ => .normal

theorem evFn_ok (hrec : ∀ t s, TOK P g0 t s (rec t s)) {f : FuncId} {args : List Value} {H : Tr AObj} {n : Nat} {r : Res} (hr : evFn P rec f args H n = r) (hgood : ∀ m tr, r ≠ .bad m tr) : CallOK P g0 f args H n r := by
  unfold evFn at hr
  cases hf : P.funcs[f]? with
  | none => rw [hf] at hr; exact absurd hr.symm (hgood _ _)
  | some fn =>
    simp only [hf] at hr
    cases hb : fn.body with
    | none => rw [hb] at hr; exact absurd hr.symm (hgood _ _)
    | some c =>
      simp only [hb] at hr
      have hc := hrec (.code (args.length + (fn.ntmps - args.length)) none c) ⟨tmpsOf args 0 .e, H, n, [], []⟩
      generalize rec (.code (args.length + (fn.ntmps - args.length)) none c) ⟨tmpsOf args 0 .e, H, n, [], []⟩ = RR at hr hc
      cases RR with
      | bad m tr => exact absurd hr.symm (hgood _ _)
      | ret _ _ _ _ => exact absurd hr.symm (hgood _ _)
      | pan _ _ _ _ => exact absurd hr.symm (hgood _ _)
      | code x s =>
        obtain ⟨⟨g1, g1'⟩, hw⟩ := hc
        have g1 : Grw n s.n H s.H s.wr := g1
        -- the walk
        have walk : ∀ (H' : Tr AObj) (wr' : List Nat) (r : Res), evOut s.df s.H s.wr = some (H', wr') → endGrw n H r → endN r n = s.n →
            (∀ (E E' : Env) (w w' : World) (fr : FrameMode) (a : Act), exR E' x (exitOf fr x) → fr ≠ .run → TR E' s.T (args.length + (fn.ntmps - args.length)) a.tmps → Ext E E' → Took E E' n s.n → HR P E' H'.get w' → Stp E E' wr' w w' → Free E n s.n → LeavesIn Fence.wide 0 P fn a.tmps (CallEnd P E n w r) [] fr w') →
            ((∃ ch, x = .pan ch) ∨ x = .normal ∨ x = .ret) → CallOK P g0 f args H n r := by
          intro H' wr' r ho hg hn hgo hx
          refine ⟨hg, fun E w args' hgl hva hH hlow hfree => ?_⟩
          rw [hn] at hfree
          refine callsIn_of_wp_marks hf hb trivial ?_
          have hfr : FRm P g0 E w E (args.length + (fn.ntmps - args.length)) none ⟨tmpsOf args 0 .e, H, n, [], []⟩ { tmps := args' ++ Array.replicate (fn.ntmps - args'.size) undef, defers := [] } w :=
            ⟨tr_start hva _, hH, hlow, .refl E w, .nil, hgl, fun l e => by cases e⟩
          refine wpIn_mono (hw E w E _ w hfr hfree) ?_
          rintro e a' w' ⟨E', hxt, htk, hf', hex⟩
          have out : ∀ u : FrameMode, u ≠ .run → exR E' x (exitOf u x) → LeavesInM Fence.wide 0 P fn a'.tmps (CallEnd P E n w r) a'.defers u w' := fun u hu he =>
            evOut_ok hu s.df _ s.H s.wr H' wr' w' ho hf'.df hf'.hr hf'.stp (fun w'' k1 k2 => hgo E E' w w'' u a' he hu hf'.tr hxt htk k1 k2 hfree)
          rcases hx with ⟨ch, rfl⟩ | rfl | rfl
          · cases e <;> first | exact False.elim hex | skip
            exact out (.panicking _) (by simp) hex
          · cases e <;> first | exact False.elim hex | skip
            exact out .returning (by simp) trivial
          · cases e <;> first | exact False.elim hex | skip
            exact out .returning (by simp) trivial
        have stpf : ∀ {E E' : Env} {wr' : List Nat} {w w' : World}, Free E n s.n → Stp E E' wr' w w' → Stp E E' (wr'.filter fun k => !(n.ble k && Nat.blt k s.n)) w w' := by
          intro E E' wr' w w' hfree hs
          refine hs.sub (fun y hy hd => List.mem_filter.2 ⟨hy, ?_⟩)
          cases h1 : (n.ble y && Nat.blt y s.n) with
          | false => rfl
          | true =>
            simp only [Bool.and_eq_true] at h1
            have h2 : n ≤ y := Nat.le_of_ble_eq_true h1.1
            have h3 : y + 1 ≤ s.n := Nat.le_of_ble_eq_true h1.2
            exact absurd hd (hfree y h2 (by omega))
        have grwf : ∀ {H' : Tr AObj} {wr' : List Nat}, evOut s.df s.H s.wr = some (H', wr') → Grw n s.n H H' (wr'.filter fun k => !(n.ble k && Nat.blt k s.n)) := by
          intro H' wr' ho
          obtain ⟨o1, o2, o3⟩ := evOut_grw _ _ _ _ _ ho
          refine ⟨g1.le, fun k hk hkw => ?_, fun h0 => o3 _ (g1.low h0)⟩
          have hkw' : k ∉ wr' := fun h => hkw (List.mem_filter.2 ⟨h, by
            have : n.ble k = false := by cases hb : n.ble k; rfl; exact absurd (Nat.le_of_ble_eq_true hb) (by omega)
            simp [this]⟩)
          rw [o2 k hkw', g1.same k hk (fun h => hkw' (o1 k h))]
        have ret : ∀ (hx : x = .normal ∨ x = .ret), (match evOut s.df s.H s.wr with
            | some (H', wr') => (match evResults P { s with H := H' } fn.results.toList with | some vs => Res.ret (tupleOf vs) H' s.n (wr'.filter fun k => !(n.ble k && Nat.blt k s.n)) | none => .bad "results" [])
            | none => .bad "defers" []) = r → CallOK P g0 f args H n r := by
          intro hx hr
          rcases ho : evOut s.df s.H s.wr with _ | ⟨H', wr'⟩
          · rw [ho] at hr; exact absurd hr.symm (hgood _ _)
          · rw [ho] at hr
            simp only [] at hr
            cases hv : evResults P { s with H := H' } fn.results.toList with
            | none => rw [hv] at hr; exact absurd hr.symm (hgood _ _)
            | some vs =>
              rw [hv] at hr
              simp only [] at hr
              subst hr
              refine walk H' wr' _ ho (grwf ho) rfl (fun E E' w w' fr a he hu hT hxt htk hH hs hfree => ?_) (.inr hx)
              have hret : fr = .returning := by
                cases fr with
                | returning => rfl
                | run => exact absurd rfl hu
                | panicking ch => rcases hx with rfl | rfl <;> exact False.elim he
              subst hret
              obtain ⟨vs', h1, h2⟩ := evResults_ok (s := { s with H := H' }) hT hH _ _ hv
              exact ⟨_, results_run h2, E', _, rfl, tupleOf_rel h1, hxt, htk, hH, stpf hfree hs⟩
        cases x with
        | normal => exact ret (.inl rfl) hr
        | ret => exact ret (.inr rfl) hr
        | exit id => exact absurd hr.symm (hgood _ _)
        | goto l => exact absurd hr.symm (hgood _ _)
        | pan ch =>
          simp only [] at hr
          rcases ho : evOut s.df s.H s.wr with _ | ⟨H', wr'⟩
          · rw [ho] at hr; exact absurd hr.symm (hgood _ _)
          · rw [ho] at hr
            simp only [] at hr
            subst hr
            refine walk H' wr' _ ho (grwf ho) rfl (fun E E' w w' fr a he hu hT hxt htk hH hs hfree => ?_) (.inl ⟨ch, rfl⟩)
            cases fr with
            | returning => exact False.elim he
            | run => exact absurd rfl hu
            | panicking ch' => exact ⟨E', ch', rfl, he, hxt, htk, hH, stpf hfree hs⟩
end
end Go.Proofs.Ytblhnenhonfpnaa
