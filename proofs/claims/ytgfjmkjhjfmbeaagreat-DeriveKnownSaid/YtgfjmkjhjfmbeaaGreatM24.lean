/- DERIVED. The machine M: the loop over a map that lays its entries into another map: its law; M with contracts. -/
import Derived.Test.YtgfjmkjhjfmbeaaGreatM23
namespace Go.Proofs.YtgfjmkjhjfmbeaaGreat
open Go.RowKit

section
variable {P : Program} {g0 nt : Nat} {E0 : Env} {w0 : World} {rd : Option Nat} {wr : List Nat} {df : List ADf} {b m ck : Nat} {arr : Array MapEntry}

theorem wanted_none {o : Oper} {f : Nat → Option Bool} (h : o.guard = none) : Region.wanted o f = true := by unfold Region.wanted; rw [h]

/-- The last operation of a round: the entry is laid. -/
theorem upd_wp {G1 : Gh} {B : Nat} {esB : List MapEntry} {ckB : Nat} {X : List MapEntry} {E : Env} {a : Act} {w : World} {T : Tr Value} {seen : Array Nat} {n : Nat} (h : MB P g0 nt E0 w0 rd wr df b m ck arr E a w T (gx G1 B esB ckB X) seen) (hBw : B ∈ wr) (hmB : m ≠ B) (hGm : G1 m ≠ none)
    {o : Oper} {ut kt et : TypeId} {um uk uv : Operand} {e : MapEntry} (ho : isUpd o = some (ut, um, uk, uv)) (hm : okX g0 um = true) (hk : okX g0 uk = true) (hv : okX g0 uv = true) (em : aev T um = .map (some B)) (ek : aev T uk = e.key) (ev : aev T uv = e.val)
    (hu : P.underlying ut = some (.map kt et)) (hkt : (P.underlying kt).isSome = true) (hp : plainKeys (esB ++ X) = true) (hko : keyOk P kt false e.key = true) (hf : ∀ x ∈ esB ++ X, eqK P kt e.key x = some false) (hb0 : e.born = 0)
    {K : Act → World → Prop} {Q : Exit → Act → World → Prop} (hK : ∀ E1 w1, Ext E E1 → (∀ b, E1.dom b ↔ E.dom b) → MB P g0 nt E0 w0 rd wr df b m ck arr E1 a w1 T (gx G1 B esB ckB (X ++ [e])) seen → K a w1) : o.wpIn (rdF E rd) 0 P a w K Q := by
  obtain ⟨hdst, hop, hgd⟩ := isUpd_spec ho
  have hev : aUpdate P ut (aev T um) (aev T uk) (aev T uv) (gx G1 B esB ckB X) = .val undef [(B, some (.map (esB ++ X ++ [e]) (ckB + X.length + 1)))] 0 := by
    rw [em, ek, ev, upd_eval hu hkt hp hko hf (by unfold gx gset; rw [if_pos rfl])]
    cases e; simp only at hb0; subst hb0; rfl
  have hs := aUpdate_ok (n := n) h.hr ut um uk uv (.inl hop) (aev_rel h.tr h.gl hm) (aev_rel h.tr h.gl hk) (aev_rel h.tr h.gl hv)
  rw [hev] at hs
  obtain ⟨nx, w1, E1, hrun, hnx, hdom, hH, hst, _⟩ := hs (fun hk => by omega)
  have hd1 : ∀ b, E1.dom b ↔ E.dom b := fun b => (hdom b).trans ⟨fun h => h.resolve_right (by omega), .inl⟩
  have hx := hst.ext
  have hst : Stp E E1 [B] w w1 := hst
  have hBn : gx G1 B esB ckB X B ≠ none := by unfold gx gset; rw [if_pos rfl]; simp
  have hdB := h.hr.live hBn
  have hG' : HR P E1 (gx G1 B esB ckB (X ++ [e])) w1 := by
    have : upd [(B, some (AObj.map (esB ++ X ++ [e]) (ckB + X.length + 1)))] (gx G1 B esB ckB X) = gx G1 B esB ckB (X ++ [e]) := by
      show gset (gx G1 B esB ckB X) B _ = _
      unfold gx
      rw [gset2, List.append_assoc, List.length_append]
      rfl
    rw [← this]; exact hH
  have hb1 : E.ρ B ≠ E.ρ b := h.ap B hBn
  have hb2 : E.ρ B ≠ E.ρ m := fun e => hmB (h.hr.inj m B (by unfold gx gset; rw [if_neg hmB]; exact hGm) hBn e.symm)
  have blk : ∀ i, E.dom i → E.ρ B ≠ E.ρ i → w1.heap[E1.ρ i]? = w.heap[E.ρ i]? := fun i hi hne => by
    rw [hx.ρ i hi]; exact hst.block _ (h.hr.lt i hi) (fun k hk _ => by simp at hk; rw [hk]; exact hne)
  have hlive : ∀ i, gx G1 B esB ckB (X ++ [e]) i ≠ none → gx G1 B esB ckB X i ≠ none := fun i hi => by
    unfold gx gset at hi ⊢
    by_cases hiB : i = B
    · rw [if_pos hiB]; simp
    · rw [if_neg hiB] at hi ⊢; exact hi
  have fin : K a w1 := hK E1 w1 hx hd1 ⟨h.tr.ext hx, hG', hx.n _ h.db, hx.n _ h.dm, by rw [blk b h.db hb1, hx.ρ m h.dm]; exact h.it,
    fun i hi => by rw [hx.ρ b h.db, hx.ρ i (h.hr.live (hlive i hi))]; exact h.ap i (hlive i hi), by rw [blk m h.dm hb2]; exact h.hA,
    h.stp.trans' hst (fun y hy => by
      rcases hy with hy | hy
      · simp at hy; subst hy; exact hBw
      · exact hy), h.df.ext hx, h.gl.ext hx, fun l hl => hx.n l (h.rdd l hl)⟩
  refine wpIn_of_run (fun c e => by rw [hop] at e; cases e) hrun ?_
  have hput : ∀ v, a.put o.dst v = a := fun v => by rw [hdst]; rfl
  rcases hnx with ⟨v', rfl, _⟩ | ⟨rfl, _⟩
  · rw [Oper.uponIn_value, hput]; exact fin
  · rw [Oper.uponIn_skip, hput]; exact fin

theorem range_head {n : Nat} (h : 0 < n) : List.range n = 0 :: (List.range n).tail := by
  cases n with
  | zero => omega
  | succ n => rw [List.range_succ_eq_map]; rfl
theorem range_last {n : Nat} (h : 0 < n) : List.range n = List.range (n - 1) ++ [n - 1] := by
  cases n with
  | zero => omega
  | succ n => rw [List.range_succ]; rfl
theorem size_pos {α : Type} {a : Array α} {i : Nat} {x : α} (h : a[i]? = some x) : 0 < a.size := by
  have := (Array.getElem?_eq_some_iff.1 h).1; omega

/-- The loop's end. -/
theorem mend_wp {L : MLoop} {K : MKeys} (hK : mkeys L = some K) {G Gp : Gh} {n : Nat} (hsub : ∀ k o, Gp k = some o → G k = some o) {E : Env} {a : Act} {w : World} {T T' : Tr Value} {seen : Array Nat} (h : MB P g0 nt E0 w0 rd wr df b m ck arr E a w T G seen) (hm : mend P g0 nt L K Gp n b T = some T')
    {o0 : Oper} (ho : L.r0[0]? = some o0) (hi : isNext o0 = some (K.it0, K.t0)) (hrun : (execOp a.eval o0).run P w = .ok (.value (.tuple #[.bool false])) w) {Q : Exit → Act → World → Prop} {C : Act → World → Prop}
    (hq : ∀ E1 a1 w1, Ext E E1 → (∀ b, E1.dom b ↔ E.dom b) → MB P g0 nt E0 w0 rd wr df b m ck arr E1 a1 w1 T' G seen → Q (.exit L.x) a1 w1) : L.code.wpIn (rdF E rd) 0 P (Exit.then C Q) a w := by
  obtain ⟨_, _, Ta, ha, hb, hcx, hcv⟩ := mend_spec hm
  obtain ⟨hdst, hop, hgd⟩ := isNext_spec hi
  refine wpIn_seq (wpIn_region ?_)
  rw [range_head (size_pos ho)]
  simp only [wpOpsIn, ho]
  rw [if_pos (wanted_none hgd)]
  refine wpIn_of_run (fun c e => by rw [hop] at e; cases e) hrun ?_
  rw [Oper.uponIn_value]
  have ht : TR E Ta nt (a.put o0.dst (.tuple #[.bool false])).tmps := by
    rw [hdst]
    exact h.tr.put (.tuple _ _ (.cons _ _ _ _ (.bool _) .nil)) ha
  rw [show (List.range L.r0.size).tail = tailIx L.r0 ++ [] by rw [List.append_nil]; rfl]
  refine evPre_ok hsub _ Ta T' hb E _ w rfl h.rdd ht h.hr h.gl (fun E1 a1 w1 hx hd hs hT hG hde => ?_)
  have h1 := h.step hx hd hs hT hG (hde.trans (put_defers _ _ _))
  have hc : a1.eval L.cx = .bool false := by
    have := aev_rel hT h1.gl hcx
    rw [hcv] at this
    exact (this.isBool false).2 rfl
  exact wpIn_seq (wpIn_cond_false hc (wpIn_exit (hq E1 a1 w1 hx hd h1)))

structure Side (P : Program) (kt : TypeId) (es esB : List MapEntry) : Prop where
  pk : plainKeys es = true
  pb : plainKeys esB = true
  b0 : ∀ e ∈ es, e.born = 0
  ko : ∀ e ∈ es, keyOk P kt false e.key = true
  fb : ∀ e ∈ es, ∀ x ∈ esB, eqK P kt e.key x = some false
  ff : es.Pairwise fun e x => eqK P kt e.key x = some false ∧ eqK P kt x.key e = some false

theorem plainKeys_mem {l : List MapEntry} (h : plainKeys l = true) {e : MapEntry} (he : e ∈ l) : plainV 8 e.key = true := List.all_eq_true.1 h e he
theorem plainKeys_of {l : List MapEntry} (h : ∀ e ∈ l, plainV 8 e.key = true) : plainKeys l = true := List.all_eq_true.2 h

theorem Side.fresh {kt : TypeId} {es esB X Y1 Y2 : List MapEntry} {e : MapEntry} (h : Side P kt es esB) (hp : (X ++ (Y1 ++ e :: Y2)).Perm es) : e ∈ es ∧ ∀ x ∈ esB ++ X, eqK P kt e.key x = some false := by
  have he : e ∈ es := hp.mem_iff.1 (by simp)
  refine ⟨he, fun x hx => ?_⟩
  rcases List.mem_append.1 hx with hx | hx
  · exact h.fb e he x hx
  · have hpw := (hp.pairwise_iff (fun {a b} (hab : eqK P kt a.key b = some false ∧ eqK P kt b.key a = some false) => ⟨hab.2, hab.1⟩)).2 h.ff
    have := (List.pairwise_append.1 hpw).2.2 x hx e (by simp)
    exact this.2

/-- A round. -/
theorem mround_wp {L : MLoop} {K : MKeys} (hK : mkeys L = some K) {G1 : Gh} {B : Nat} {esB : List MapEntry} {ckB : Nat} {X : List MapEntry} {n : Nat} {E : Env} {a : Act} {w w1 : World} {T T1 : Tr Value} {seen : Array Nat} {e e' : MapEntry} {kt et : TypeId}
    (h : MB P g0 nt E0 w0 rd wr df b m ck arr E a w1 T (gx G1 B esB ckB X) (seen.push e'.born)) (hnd : (arr.toList.map (·.born)).Nodup) (hmem : e' ∈ arr.toList) (hr : mround P g0 nt L K (gset G1 B none) n b B T1 T e = true) (hT1 : ∀ t, t ∉ mdsts L → T1.get t = T.get t)
    (hek : VR E e.key e'.key) (hev : VR E e.val e'.val) {o0 : Oper} (ho : L.r0[0]? = some o0) (hi : isNext o0 = some (K.it0, K.t0)) (hrun : (execOp a.eval o0).run P w = .ok (.value (.tuple #[.bool true, e'.key, e'.val])) w1)
    (hBw : B ∈ wr) (hmB : m ≠ B) (hGm : G1 m ≠ none) (hu : P.underlying K.ut = some (.map kt et)) (hkt : (P.underlying kt).isSome = true) (hp : plainKeys (esB ++ X) = true) (hko : keyOk P kt false e.key = true) (hf : ∀ x ∈ esB ++ X, eqK P kt e.key x = some false) (hb0 : e.born = 0)
    {Q : Exit → Act → World → Prop} {C : Act → World → Prop}
    (hq : ∀ E1 a1 w2, Ext E E1 → (∀ b, E1.dom b ↔ E.dom b) → MB P g0 nt E0 w0 rd wr df b m ck arr E1 a1 w2 T1 (gx G1 B esB ckB (X ++ [e])) (seen.push e'.born) → C a1 w2) : L.code.wpIn (rdF E rd) 0 P (Exit.then C Q) a w := by
  have hsub : ∀ k o, gset G1 B none k = some o → gx G1 B esB ckB X k = some o := gx_sub
  unfold mround at hr
  cases hms : mslots P g0 nt L K (gset G1 B none) n b T e with
  | none => simp [hms] at hr
  | some Te =>
    rw [hms] at hr
    simp only [Bool.and_eq_true] at hr
    obtain ⟨⟨⟨⟨⟨⟨hm1, hk1⟩, hv1⟩, em⟩, ek⟩, ev⟩, hcov⟩ := hr
    have em := eqV1_eq em
    have ek := eqV1_eq ek
    have ev := eqV1_eq ev
    have hslots := mslots_slots hK hms
    obtain ⟨_, _, Ta, Tb, Tc, Td, ha, hb, hcx, hit1, hcv, hitv, hc, hd, hte⟩ := mslots_spec hms
    obtain ⟨hdst, hop, hgd⟩ := isNext_spec hi
    obtain ⟨_, o1, o2, _, _, h1, i1, h2, i2⟩ := mkeys_spec hK
    obtain ⟨hdst1, hop1, hgd1⟩ := isEntry_spec i1
    obtain ⟨hdst2, hop2, hgd2⟩ := isUpd_spec i2
    refine wpIn_seq (wpIn_region ?_)
    rw [range_head (size_pos ho)]
    simp only [wpOpsIn, ho]
    rw [if_pos (wanted_none hgd)]
    refine wpIn_of_run (fun c e => by rw [hop] at e; cases e) hrun ?_
    rw [Oper.uponIn_value]
    have ht : TR E Ta nt (a.put o0.dst (.tuple #[.bool true, e'.key, e'.val])).tmps := by
      rw [hdst]
      exact h.tr.put (.tuple _ _ (.cons _ _ _ _ (.bool _) (.cons _ _ _ _ hek (.cons _ _ _ _ hev .nil)))) ha
    rw [show (List.range L.r0.size).tail = tailIx L.r0 ++ [] by rw [List.append_nil]; rfl]
    refine evPre_ok hsub _ Ta Tb hb E _ w1 rfl h.rdd ht h.hr h.gl (fun E1 a1 w2 hx hd1 hs hT hG hde => ?_)
    have k1 := h.step hx hd1 hs hT hG (hde.trans (put_defers _ _ _))
    have hcc : a1.eval L.cx = .bool true := by
      have := aev_rel hT k1.gl hcx
      rw [hcv] at this
      exact (this.isBool true).2 rfl
    refine wpIn_seq (wpIn_cond_true hcc (wpIn_skip ?_))
    refine wpIn_block (wpIn_seq (wpIn_region ?_))
    rw [range_head (size_pos h1)]
    simp only [wpOpsIn, h1]
    rw [if_pos (wanted_none hgd1), ← rdF_ext hx h.rdd]
    refine wpIn_of_run (fun c e => by rw [hop1] at e; cases e) (entry_ok k1 hnd rfl hmem i1 hit1 hitv) ?_
    rw [Oper.uponIn_value]
    have ht1 : TR E1 Tc nt (a1.put o1.dst (.tuple #[e'.key, e'.val])).tmps := by
      rw [hdst1]
      exact hT.put (.tuple _ _ (.cons _ _ _ _ (hek.ext hx) (.cons _ _ _ _ (hev.ext hx) .nil))) hc
    rw [show (List.range L.r1.size).tail = tailIx L.r1 ++ [] by rw [List.append_nil]; rfl]
    refine evPre_ok hsub _ Tc Td hd E1 _ w2 rfl k1.rdd ht1 k1.hr k1.gl (fun E2 a2 w3 hx2 hd2 hs2 hT2 hG2 hde2 => ?_)
    have k2 := k1.step hx2 hd2 hs2 hT2 hG2 (hde2.trans (put_defers _ _ _))
    refine wpIn_region ?_
    rw [range_last (size_pos h2), ← rdF_ext hx2 k1.rdd]
    refine evPre_ok hsub _ Td Te hte E2 a2 w3 rfl k2.rdd hT2 hG2 k2.gl (fun E3 a3 w4 hx3 hd3 hs3 hT3 hG3 hde3 => ?_)
    have k3 := k2.step hx3 hd3 hs3 hT3 hG3 hde3
    simp only [wpOpsIn, h2]
    rw [if_pos (wanted_none hgd2), ← rdF_ext hx3 k2.rdd]
    refine upd_wp (n := n) k3 hBw hmB hGm i2 hm1 hk1 hv1 em ek ev hu hkt hp hko hf hb0 (fun E4 w5 hx4 hd4 k4 => ?_)
    refine hq E4 a3 w5 (((hx.trans hx2).trans hx3).trans hx4) (fun b => ((hd4 b).trans (hd3 b)).trans ((hd2 b).trans (hd1 b))) ?_
    exact ⟨k4.tr.cover hcov (fun t ht => by rw [hT1 t ht, hslots t ht]), k4.hr, k4.db, k4.dm, k4.it, k4.ap, k4.hA, k4.stp, k4.df, k4.gl, k4.rdd⟩
end
end Go.Proofs.YtgfjmkjhjfmbeaaGreat
