/- DERIVED. The machine M: a loop over a map whose rounds turn nothing, and may return: its law. -/
import Derived.Test.YtgfjmkjhjfmbeaaGreatM26
namespace Go.Proofs.YtgfjmkjhjfmbeaaGreat
open Go.RowKit

section
variable {P : Program} {g0 nt : Nat} {rec : Task → Fs → Res} {E0 : Env} {w0 : World} {rd : Option Nat} {wr : List Nat} {b m ck : Nat} {arr : Array MapEntry}

theorem in_seqL : ∀ {n lo t : Nat}, lo ≤ t → t < lo + n → t ∈ seqL lo n
  | 0, lo, t, h1, h2 => by omega
  | n + 1, lo, t, h1, h2 => by
    unfold seqL
    by_cases h : t = lo
    · subst h; simp
    · exact List.mem_cons_of_mem _ (in_seqL (by omega) (by omega))
theorem seqL_in : ∀ {n lo t : Nat}, t ∈ seqL lo n → t < lo + n
  | 0, lo, t, h => by cases h
  | n + 1, lo, t, h => by
    unfold seqL at h
    rcases List.mem_cons.1 h with rfl | h
    · omega
    · have := seqL_in h; omega

theorem foldl_set_out {f : Nat → Value} : ∀ {l : List Nat} {R : Tr Value} {t : Nat}, t ∉ l → (l.foldl (fun R t => R.set t (some (f t))) R).get t = R.get t
  | [], _, _, _ => rfl
  | x :: l, R, t, h => by
    simp only [List.mem_cons, not_or] at h
    rw [List.foldl_cons, foldl_set_out h.2, Tr.get_set_ne _ _ h.1]
theorem joinT_out {n : Nat} {l : List (Tr Value)} {t : Nat} (h : nt ≤ t) : (joinT n nt l).get t = none := by
  unfold joinT
  cases l with
  | nil => rfl
  | cons T0 l =>
    simp only []
    rw [foldl_set_out (f := fun t => bif oldV n ((T0.get t).getD undef) && l.all (fun T => eqW ((T.get t).getD undef) ((T0.get t).getD undef)) then (T0.get t).getD undef else anX ((T0.get t).getD undef)) (fun hm => by have := seqL_in hm; omega)]
    rfl

theorem TR.coverS {E E' : Env} {n n' : Nat} {T' T1 : Tr Value} {a : Array Value} (h : TR E' T' nt a) (hx : Ext E E') (ht : Took E E' n n') (hc : coverT n nt T' T1 = true) (ho : ∀ t, nt ≤ t → T1.get t = none) : TR E T1 nt a := by
  refine ⟨h.1, fun t => ?_⟩
  rcases Nat.lt_or_ge t nt with hl | hl
  · have := List.all_eq_true.1 hc t (in_seqL (Nat.zero_le _) (by omega))
    simp only [coverV, Bool.and_eq_true, Bool.or_eq_true] at this
    obtain ⟨h1, h2⟩ := this
    rcases h2 with h2 | h2
    · have hv := h.2 t
      rw [eqW_eq h2] at hv
      exact hv.down hx ht h1
    · have hv := (h.2 t).anX
      rw [eqW_eq h2] at hv
      exact hv.down hx ht h1
  · rw [ho t hl, Array.getD_eq_getD_getElem?, Array.getElem?_eq_none (by rw [h.1]; exact hl)]
    exact VR.undef

theorem HR.stay {E : Env} {G : Gh} {w w' : World} (h : HR P E G w) (hb : ∀ k, k < w.heap.size → w'.heap[k]? = w.heap[k]?) (hs : w.heap.size ≤ w'.heap.size) : HR P E G w' :=
  ⟨fun id hd => Nat.lt_of_lt_of_le (h.lt id hd) hs, h.dom, fun id o ho => (h.obj id o ho).mono (.refl E) (h.live (by rw [ho]; simp)) (hb _ (h.lt id (h.live (by rw [ho]; simp)))), h.inj⟩

/-- Nothing that has a name has turned. -/
theorem MB.stay {E : Env} {a : Act} {w : World} {T : Tr Value} {G : Gh} {seen : Array Nat} (h : MB P g0 nt E0 w0 rd wr [] b m ck arr E a w T G seen) {E' : Env} {a' : Act} {w' : World} {T1 : Tr Value} {W : List Nat} (hs : Stp E E' W w w') (hW : ∀ k ∈ W, ¬ E.dom k) (hT : TR E T1 nt a'.tmps) (hd : a'.defers = []) :
    MB P g0 nt E0 w0 rd wr [] b m ck arr E a' w' T1 G seen := by
  have blk : ∀ k, k < w.heap.size → w'.heap[k]? = w.heap[k]? := fun k hk => hs.block k hk (fun i hi hdi => absurd hdi (hW i hi))
  have st : Stp E E [] w w' := ⟨.refl E, hs.os, hs.tape, hs.output, hs.size, fun k hk _ => blk k hk, fun _ h1 h2 => absurd h2 h1⟩
  exact ⟨hT, h.hr.stay blk hs.size, h.db, h.dm, by rw [blk _ (h.hr.lt b h.db)]; exact h.it, h.ap, by rw [blk _ (h.hr.lt m h.dm)]; exact h.hA, by have := h.stp.trans st; simpa using this, by rw [hd]; exact .nil, h.gl, h.rdd⟩

theorem sslots_spec {L : MLoop} {K : MKeys} {G : Gh} {n b : Nat} {T Td : Tr Value} {e : MapEntry} (h : sslots P g0 nt L K G n b T e = some Td) : okX g0 K.it0 = true ∧ aev T K.it0 = .pointer (some ⟨b, 0, none⟩) ∧
    ∃ Ta Tb, putT nt T (some K.t0) (.tuple #[.bool true, e.key, e.val]) = some Ta ∧ evPre P g0 nt L.r0 G n (tailIx L.r0) Ta = some Tb ∧ okX g0 L.cx = true ∧ okX g0 K.it1 = true ∧ aev Tb L.cx = .bool true ∧ aev Tb K.it1 = .pointer (some ⟨b, 0, none⟩) ∧
      putT nt Tb (some K.t1) (.tuple #[e.key, e.val]) = some Td := by
  unfold sslots at h
  cases hc : (okX g0 K.it0 && eqV1 (aev T K.it0) (.pointer (some ⟨b, 0, none⟩))) with
  | false => simp [hc] at h
  | true =>
    simp only [hc, cond_true] at h
    obtain ⟨Ta, ha, h⟩ := Option.bind_eq_some_iff.1 h
    obtain ⟨Tb, hb, h⟩ := Option.bind_eq_some_iff.1 h
    cases hc2 : (okX g0 L.cx && okX g0 K.it1 && eqV1 (aev Tb L.cx) (.bool true) && eqV1 (aev Tb K.it1) (.pointer (some ⟨b, 0, none⟩))) with
    | false => simp [hc2] at h
    | true =>
      simp only [hc2, cond_true] at h
      simp only [Bool.and_eq_true] at hc hc2
      exact ⟨hc.1, eqV1_eq hc.2, Ta, Tb, ha, hb, hc2.1.1.1, hc2.1.1.2, eqV1_eq hc2.1.2, eqV1_eq hc2.2, h⟩

theorem sround_spec {L : MLoop} {rest : Code} {K : MKeys} {H1 : Tr AObj} {n b : Nat} {T T' : Tr Value} {e : MapEntry} {k : Bool} {n' : Nat} (h : sround P g0 rec nt rd L rest K H1 n b T e = some (k, T', n')) :
    ∃ Td s2 x s', sslots P g0 nt L K H1.get n b T e = some Td ∧ evOps P g0 rec nt rd L.r1 (tailIx L.r1) ⟨Td, H1, n, [], []⟩ = .code .normal s2 ∧ rec (.code nt rd rest) s2 = .code x s' ∧ s'.df = [] ∧ own n s'.n s'.wr = [] ∧ s'.T = T' ∧ s'.n = n' ∧ ((k = false ∧ (x = .normal ∨ x = .exit L.b)) ∨ (k = true ∧ x = .ret)) := by
  unfold sround at h
  cases hs : sslots P g0 nt L K H1.get n b T e with
  | none => simp [hs] at h
  | some Td =>
    simp only [hs] at h
    split at h
    case h_2 => cases h
    · rename_i s2 ho
      split at h
      case h_2 => cases h
      rename_i x s' hr
      cases hc : (s'.df.isEmpty && (own n s'.n s'.wr).isEmpty) with
      | false => simp [hc] at h
      | true =>
        simp only [hc, cond_true] at h
        simp only [Bool.and_eq_true, List.isEmpty_iff] at hc
        refine ⟨Td, s2, x, s', rfl, ho, hr, hc.1, hc.2, ?_⟩
        cases x with
        | normal => simp at h; exact ⟨h.2.1, h.2.2, .inl ⟨h.1, .inl rfl⟩⟩
        | exit id =>
          simp only [] at h
          cases hid : id.beq L.b with
          | false => simp [hid] at h
          | true =>
            simp [hid] at h
            have := Nat.eq_of_beq_eq_true hid
            subst this
            exact ⟨h.2.1, h.2.2, .inl ⟨h.1, .inr rfl⟩⟩
        | ret => simp at h; exact ⟨h.2.1, h.2.2, .inr ⟨h.1, rfl⟩⟩
        | goto l => simp at h
        | pan ch => simp at h

/-- The loop's end. -/
theorem send_wp {L : MLoop} {rest : Code} {K : MKeys} {G : Gh} {n : Nat} {E : Env} {a : Act} {w : World} {T T' : Tr Value} {seen : Array Nat} {df : List ADf} (h : MB P g0 nt E0 w0 rd wr df b m ck arr E a w T G seen) (hm : mend P g0 nt L K G n b T = some T')
    {o0 : Oper} (ho : L.r0[0]? = some o0) (hi : isNext o0 = some (K.it0, K.t0)) (hrun : (execOp a.eval o0).run P w = .ok (.value (.tuple #[.bool false])) w) {Q : Exit → Act → World → Prop} {C : Act → World → Prop}
    (hq : ∀ E1 a1 w1, Ext E E1 → (∀ b, E1.dom b ↔ E.dom b) → MB P g0 nt E0 w0 rd wr df b m ck arr E1 a1 w1 T' G seen → Q (.exit L.x) a1 w1) : (scode L rest).wpIn (rdF E rd) 0 P (Exit.then C Q) a w := by
  obtain ⟨_, _, Ta, ha, hb, hcx, hcv⟩ := mend_spec hm
  obtain ⟨hdst, hop, hgd⟩ := isNext_spec hi
  refine wpIn_seq (wpIn_region ?_)
  rw [range_head (size_pos ho)]
  simp only [wpOpsIn, ho]
  rw [if_pos (wanted_none hgd)]
  refine wpIn_of_run (fun c e => by rw [hop] at e; cases e) hrun ?_
  rw [Oper.uponIn_value]
  have ht : TR E Ta nt (a.put o0.dst (.tuple #[.bool false])).tmps := by
    rw [hdst]
    exact h.tr.put (.tuple _ _ (.cons _ _ _ _ (.bool _) .nil)) ha
  rw [show (List.range L.r0.size).tail = tailIx L.r0 ++ [] by rw [List.append_nil]; rfl]
  refine evPre_ok (fun _ _ h => h) _ Ta T' hb E _ w rfl h.rdd ht h.hr h.gl (fun E1 a1 w1 hx hd hs hT hG hde => ?_)
  have h1 := h.step hx hd hs hT hG (hde.trans (put_defers _ _ _))
  have hc : a1.eval L.cx = .bool false := by
    have := aev_rel hT h1.gl hcx
    rw [hcv] at this
    exact (this.isBool false).2 rfl
  exact wpIn_seq (wpIn_cond_false hc (wpIn_exit (hq E1 a1 w1 hx hd h1)))

/-- A round. -/
theorem sround_wp (hrec : ∀ t s, TOK P g0 t s (rec t s)) {L : MLoop} {rest : Code} {K : MKeys} (hK : skeys L = some K) {H1 : Tr AObj} {n n' N : Nat} {E : Env} {a : Act} {w w1 : World} {T T' T1 : Tr Value} {seen : Array Nat} {e e' : MapEntry} {k : Bool}
    (h : MB P g0 nt E0 w0 rd wr [] b m ck arr E a w1 T H1.get (seen.push e'.born)) (hnd : (arr.toList.map (·.born)).Nodup) (hmem : e' ∈ arr.toList) (hr : sround P g0 rec nt rd L rest K H1 n b T e = some (k, T', n')) (hcov : coverT n nt T' T1 = true) (hout : ∀ t, nt ≤ t → T1.get t = none) (hN : n' ≤ N) (hfree : Free E n N) (hlow : Low n H1)
    (hek : VR E e.key e'.key) (hev : VR E e.val e'.val) {o0 : Oper} (ho : L.r0[0]? = some o0) (hi : isNext o0 = some (K.it0, K.t0)) (hrun : (execOp a.eval o0).run P w = .ok (.value (.tuple #[.bool true, e'.key, e'.val])) w1)
    {Q : Exit → Act → World → Prop} {C : Act → World → Prop}
    (hq : ∀ E1 a1 w2, Ext E E1 → (∀ b, E1.dom b ↔ E.dom b) → MB P g0 nt E0 w0 rd wr [] b m ck arr E1 a1 w2 T1 H1.get (seen.push e'.born) → (k = false → C a1 w2) ∧ (k = true → Q .ret a1 w2)) : (scode L rest).wpIn (rdF E rd) 0 P (Exit.then C Q) a w := by
  obtain ⟨Tc, s2, x, s', hms, hops0, hcode, hsdf, hown, rfl, rfl, hk⟩ := sround_spec hr
  obtain ⟨_, _, Ta, Tb, ha, hb, hcx, hit1, hcv, hitv, hc⟩ := sslots_spec hms
  obtain ⟨hdst, hop, hgd⟩ := isNext_spec hi
  obtain ⟨_, o1, _, _, h1, i1⟩ := skeys_spec hK
  obtain ⟨hdst1, hop1, hgd1⟩ := isEntry_spec i1
  refine wpIn_seq (wpIn_region ?_)
  rw [range_head (size_pos ho)]
  simp only [wpOpsIn, ho]
  rw [if_pos (wanted_none hgd)]
  refine wpIn_of_run (fun c e => by rw [hop] at e; cases e) hrun ?_
  rw [Oper.uponIn_value]
  have ht : TR E Ta nt (a.put o0.dst (.tuple #[.bool true, e'.key, e'.val])).tmps := by
    rw [hdst]
    exact h.tr.put (.tuple _ _ (.cons _ _ _ _ (.bool _) (.cons _ _ _ _ hek (.cons _ _ _ _ hev .nil)))) ha
  rw [show (List.range L.r0.size).tail = tailIx L.r0 ++ [] by rw [List.append_nil]; rfl]
  refine evPre_ok (fun _ _ h => h) _ Ta Tb hb E _ w1 rfl h.rdd ht h.hr h.gl (fun E1 a1 w2 hx hd1 hs hT hG hde => ?_)
  have k1 := h.step hx hd1 hs hT hG (hde.trans (put_defers _ _ _))
  have hcc : a1.eval L.cx = .bool true := by
    have := aev_rel hT k1.gl hcx
    rw [hcv] at this
    exact (this.isBool true).2 rfl
  refine wpIn_seq (wpIn_cond_true hcc (wpIn_skip ?_))
  refine wpIn_block (wpIn_seq (wpIn_region ?_))
  rw [range_head (size_pos h1)]
  simp only [wpOpsIn, h1]
  rw [if_pos (wanted_none hgd1), ← rdF_ext hx h.rdd]
  refine wpIn_of_run (fun c e => by rw [hop1] at e; cases e) (entry_ok k1 hnd rfl hmem i1 hit1 hitv) ?_
  rw [Oper.uponIn_value]
  have ht1 : TR E1 Tc nt (a1.put o1.dst (.tuple #[e'.key, e'.val])).tmps := by
    rw [hdst1]
    exact hT.put (.tuple _ _ (.cons _ _ _ _ (hek.ext hx) (.cons _ _ _ _ (hev.ext hx) .nil))) hc
  obtain ⟨⟨g2, g2'⟩, hops⟩ := evOps_ok hrec _ _ _ _ hops0
  have hcok : CodeOK P g0 nt rd rest s2 x s' := by
    have := hrec (.code nt rd rest) s2
    rw [hcode] at this
    exact this
  have g3 := hcok.1.1
  have hn2 : n ≤ s2.n := g2.le
  have hn3 : s2.n ≤ s'.n := g3.le
  have hfr1 : Free E1 n N := fun i h1 h2 hi => hfree i h1 h2 ((hd1 i).1 hi)
  have hW : ∀ i ∈ s'.wr, ¬ E1.dom i := fun i hi hdi => by
    have hno : i ∉ own n s'.n s'.wr := by rw [hown]; simp
    have hbnd : n ≤ i ∧ i < s'.n := by
      cases hq : (n.ble i && Nat.blt i s'.n) with
      | true =>
        simp only [Bool.and_eq_true] at hq
        exact ⟨Nat.le_of_ble_eq_true hq.1, Nat.le_of_ble_eq_true hq.2⟩
      | false => exact absurd (List.mem_filter.2 ⟨hi, by rw [hq]; rfl⟩) hno
    exact hfr1 i hbnd.1 (by omega) hdi
  have hfrm : FRm P g0 E1 w2 E1 nt rd ⟨Tc, H1, n, [], []⟩ (a1.put o1.dst (.tuple #[e'.key, e'.val])) w2 := ⟨ht1, k1.hr, hlow, .refl E1 w2, by rw [put_defers]; exact k1.df, k1.gl, k1.rdd⟩
  refine hops E1 w2 E1 _ w2 _ hfrm (hfr1.left (show s2.n ≤ N by omega)) ?_
  rintro e2 a2 w3 ⟨E2, hx2, ht2, hf2, hex2⟩
  cases exR_normal hex2
  show rest.wpIn _ 0 P _ a2 w3
  have ht2 : Took E1 E2 n s2.n := ht2
  rw [← rdF_ext hx2 k1.rdd]
  refine wpIn_mono (hcok.2 E1 w2 E2 a2 w3 hf2 (((hfr1.left (show s'.n ≤ N by omega)).right ht2 hn2))) ?_
  rintro e4 a4 w4 ⟨E4, hx4, ht4, hf4, hex⟩
  have hdf4 : a4.defers = [] := by
    have := hf4.df
    rw [hsdf] at this
    generalize a4.defers = q at this
    cases this; rfl
  have hst4 : Stp E1 E4 s'.wr w2 w4 := hf4.stp
  have k4 := k1.stay hst4 hW (TR.coverS hf4.tr (hx2.trans hx4) (ht2.trans ht4 hn2 hn3) hcov hout) hdf4
  have hfin := hq E1 a4 w4 hx hd1 k4
  rcases hk with ⟨hkf, rfl | rfl⟩ | ⟨hkt, rfl⟩
  · cases e4 <;> first | exact hfin.1 hkf | exact hex.elim
  · cases e4 with
    | exit id =>
      have hid : id = L.b := hex
      subst hid
      show (if L.b = L.b then _ else _)
      rw [if_pos rfl]
      exact hfin.1 hkf
    | _ => exact hex.elim
  · cases e4 <;> first | exact hfin.2 hkt | exact hex.elim
end
end Go.Proofs.YtgfjmkjhjfmbeaaGreat
