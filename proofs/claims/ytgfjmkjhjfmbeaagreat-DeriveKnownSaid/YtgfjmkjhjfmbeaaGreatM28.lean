/- DERIVED. The machine M: a loop over a map whose rounds turn nothing, and may return: all of it. -/
import Derived.Test.YtgfjmkjhjfmbeaaGreatM27
namespace Go.Proofs.YtgfjmkjhjfmbeaaGreat
open Go.RowKit

/-- Names that stand for nothing. -/
def Env.idle (E : Env) (n N b : Nat) : Env := ⟨fun k => E.dom k ∨ (n ≤ k ∧ k < N), fun k => if n ≤ k ∧ k < N then E.ρ b else E.ρ k, E.tot, E.sz⟩
theorem Env.idle_ext {E : Env} {n N b : Nat} (hf : Free E n N) : Ext E (E.idle n N b) :=
  ⟨fun _ h => .inl h, fun k h => if_neg (fun hk => hf k hk.1 hk.2 h), fun _ _ => rfl, fun _ _ => rfl⟩
theorem HR.idle {P : Program} {E : Env} {G : Gh} {w : World} {n N b : Nat} (h : HR P E G w) (hf : Free E n N) (hb : E.dom b) : HR P (E.idle n N b) G w := by
  have hx := Env.idle_ext (b := b) hf
  refine ⟨fun id hd => ?_, fun id hd => h.dom id (fun x => hd (.inl x)), fun id o ho => (h.obj id o ho).mono hx (h.live (by rw [ho]; simp)) rfl, fun i j hi hj e => ?_⟩
  · show (if _ then _ else _) < _
    split
    · exact h.lt b hb
    · rename_i hk; exact h.lt id (hd.resolve_right hk)
  · rw [hx.ρ i (h.live hi), hx.ρ j (h.live hj)] at e
    exact h.inj i j hi hj e
theorem Stp.idle {E : Env} {w : World} {n N b : Nat} (hf : Free E n N) (hb : E.dom b) : Stp E (E.idle n N b) [b] w w := by
  refine ⟨Env.idle_ext hf, rfl, rfl, rfl, Nat.le_refl _, fun _ _ _ => rfl, fun id h1 h2 => .inr ⟨b, by simp, hb, ?_⟩⟩
  show (if _ then _ else _) = _
  rw [if_pos (h2.resolve_left h1)]

section
variable {P : Program} {g0 nt : Nat} {rec : Task → Fs → Res} {E0 : Env} {w0 : World} {rd : Option Nat} {wr : List Nat} {b m ck : Nat} {arr : Array MapEntry}

theorem shead (hrec : ∀ t s, TOK P g0 t s (rec t s)) {L : MLoop} {rest : Code} {K : MKeys} (hK : skeys L = some K) {H1 : Tr AObj} {n N : Nat} {es : List MapEntry} {kf : MapEntry → Bool} {T1 TR Tend : Tr Value} {Es : Env} {Q : Exit → Act → World → Prop}
    (hnd : (arr.toList.map (·.born)).Nodup) (hlt : ∀ x ∈ arr.toList, x.born < ck) (hbw : b ∈ wr) (ho1 : ∀ t, nt ≤ t → T1.get t = none) (hoR : ∀ t, nt ≤ t → TR.get t = none) (hlow : Low n H1) (hfree : Free Es n N)
    (h1 : (∃ e ∈ es, kf e = false) → ∀ e ∈ es, fine nt n N T1 TR (kf e) (sround P g0 rec nt rd L rest K H1 n b T1 e) = true)
    (hend : (∀ e ∈ es, kf e = false) → mend P g0 nt L K H1.get n b T1 = some Tend) (hrs : ∀ l, rd = some l → Es.dom l)
    (hqE : (∀ e ∈ es, kf e = false) → ∀ E1 a1 w1 seen1, Ext Es E1 → (∀ b, E1.dom b ↔ Es.dom b) → MB P g0 nt E0 w0 rd wr [] b m ck arr E1 a1 w1 Tend H1.get seen1 → Q (.exit L.x) a1 w1)
    (hqR : (∃ e ∈ es, kf e = true) → ∀ E1 a1 w1 seen1, Ext Es E1 → (∀ b, E1.dom b ↔ Es.dom b) → MB P g0 nt E0 w0 rd wr [] b m ck arr E1 a1 w1 TR H1.get seen1 → Q .ret a1 w1) :
    ∀ (k : Nat) (E : Env) (a : Act) (w : World) (T : Tr Value) (Y : List MapEntry) (seen : Array Nat), Y.length = k → (∀ e ∈ Y, e ∈ es) → (∀ e ∈ es, fine nt n N T1 TR (kf e) (sround P g0 rec nt rd L rest K H1 n b T e) = true) → (Y = [] → T = T1 ∧ es ≠ []) → ((∃ e ∈ es, kf e = true) → ∃ e ∈ Y, kf e = true) →
      Ext Es E → (∀ b, E.dom b ↔ Es.dom b) → MB P g0 nt E0 w0 rd wr [] b m ck arr E a w T H1.get seen → E.ρ m ≠ E.ρ b → LF arr E seen Y → inLoopIn (rdF Es rd) 0 P (scode L rest) Q a w := by
  intro k
  induction k with
  | zero =>
    intro E a w T Y seen hY hYe hT hYT hR hxs hds h hmb hL
    have hY : Y = [] := List.eq_nil_of_length_eq_zero hY
    subst hY
    obtain ⟨hTT, hne⟩ := hYT rfl
    subst hTT
    have hall : ∀ e ∈ es, kf e = false := fun e he => by
      cases hk : kf e with
      | false => rfl
      | true => obtain ⟨e', h', _⟩ := hR ⟨e, he, hk⟩; cases h'
    have hm := hend hall
    obtain ⟨o0, o1, q0, i0, _, _⟩ := skeys_spec hK
    obtain ⟨hok, hit, _⟩ := mend_spec hm
    refine inLoop_round ?_
    rcases next_ok h hbw hmb hlt hnd hL i0 hok hit with ⟨_, hrun⟩ | ⟨e, Y1, Y2, e', W, hYe, _⟩
    · rw [← rdF_ext hxs hrs]
      exact send_wp h hm q0 i0 hrun (fun E1 a1 w1 hx hd hm2 => hqE hall E1 a1 w1 _ (hxs.trans hx) (fun b => (hd b).trans (hds b)) hm2)
    · cases Y1 <;> cases hYe
  | succ k ih =>
    intro E a w T Y seen hY hYe hT hYT hR hxs hds h hmb hL
    obtain ⟨o0, o1, q0, i0, _, _⟩ := skeys_spec hK
    have hYne : ∃ y, y ∈ Y := by cases Y with | nil => simp at hY | cons y l => exact ⟨y, by simp⟩
    obtain ⟨y, hy⟩ := hYne
    have get : ∀ e ∈ es, ∃ T' n', sround P g0 rec nt rd L rest K H1 n b T e = some (kf e, T', n') ∧ n' ≤ N ∧ coverT n nt T' (bif kf e then TR else T1) = true := fun e he => by
      have := hT e he
      unfold fine at this
      cases hs : sround P g0 rec nt rd L rest K H1 n b T e with
      | none => rw [hs] at this; cases this
      | some r =>
        obtain ⟨bb, T', n'⟩ := r
        rw [hs] at this
        simp only [Bool.and_eq_true, beq_iff_eq] at this
        obtain ⟨⟨rfl, h2⟩, h3⟩ := this
        exact ⟨T', n', rfl, Nat.le_of_ble_eq_true h2, h3⟩
    have hit : okX g0 K.it0 = true ∧ aev T K.it0 = .pointer (some ⟨b, 0, none⟩) := by
      obtain ⟨T', n', hs, _⟩ := get y (hYe y hy)
      obtain ⟨Td, s2, x, s', hms, _⟩ := sround_spec hs
      exact ⟨(sslots_spec hms).1, (sslots_spec hms).2.1⟩
    refine inLoop_round ?_
    rcases next_ok h hbw hmb hlt hnd hL i0 hit.1 hit.2 with ⟨hYe0, _⟩ | ⟨e, Y1, Y2, e', W, rfl, hek, hev, hmem, hrun, hm, hL2⟩
    · subst hYe0; simp at hY
    · have hee : e ∈ es := hYe e (by simp)
      obtain ⟨T', n', hs, hN, hcov⟩ := get e hee
      have hfr : Free E n N := fun i h1 h2 hi => hfree i h1 h2 ((hds i).1 hi)
      rw [← rdF_ext hxs hrs]
      refine sround_wp hrec hK hm hnd hmem hs hcov ?_ hN hfr hlow hek hev q0 i0 hrun (fun E1 a1 w2 hx hd hm2 => ⟨fun hkf => ?_, fun hkt => ?_⟩)
      · cases kf e with | true => exact hoR | false => exact ho1
      · rw [hkf] at hm2
        rw [rdF_ext hxs hrs]
        have hn0 : ∃ e ∈ es, kf e = false := ⟨e, hee, hkf⟩
        refine ih E1 a1 w2 T1 (Y1 ++ Y2) _ (by simp at hY ⊢; omega) (fun z hz => hYe z (by rcases List.mem_append.1 hz with h | h <;> simp [h])) (h1 hn0) (fun _ => ⟨rfl, fun e0 => by rw [e0] at hee; cases hee⟩) (fun hex => ?_) (hxs.trans hx) (fun b => (hd b).trans (hds b)) hm2 (by rw [hx.ρ m h.dm, hx.ρ b h.db]; exact hmb) (hL2.ext hx)
        obtain ⟨z, hz, hzt⟩ := hR hex
        refine ⟨z, ?_, hzt⟩
        rcases List.mem_append.1 hz with hz | hz
        · simp [hz]
        · rcases List.mem_cons.1 hz with rfl | hz
          · rw [hkf] at hzt; cases hzt
          · simp [hz]
      · rw [hkt] at hm2
        exact hqR ⟨e, hee, hkt⟩ E1 a1 w2 _ (hxs.trans hx) (fun b => (hd b).trans (hds b)) hm2

/-- The law on the loop. -/
theorem sloop_ok (hrec : ∀ t s, TOK P g0 t s (rec t s)) {c : Code} {s s' : Fs} {x : Ex} (h : sloop P g0 rec nt rd c s = some (.code x s')) : LoopOK P g0 nt rd c s x s' := by
  unfold sloop at h
  cases hpar : sparse c with
  | none => simp [hpar] at h
  | some Lr =>
  obtain ⟨L, rest⟩ := Lr
  simp only [hpar] at h
  have hc := sparse_code hpar
  subst hc
  split at h
  case h_2 => cases h
  rename_i K hK hdf0
  split at h
  case h_2 => cases h
  rename_i b hitv
  split at h
  case h_2 => cases h
  rename_i m since hHb
  split at h
  case h_2 => cases h
  rename_i es ck hHm
  cases hcond : (since.beq ck && !(m.beq b)) with
  | false => simp [hcond] at h
  | true =>
  simp only [hcond, cond_true] at h
  simp only [Bool.and_eq_true, Bool.not_eq_true'] at hcond
  have hsince : since = ck := Nat.eq_of_beq_eq_true hcond.1
  subst hsince
  have hmb : m ≠ b := fun e => by rw [e] at hcond; simp at hcond
  obtain ⟨o0, o1, q0, i0, _, _⟩ := skeys_spec hK
  obtain ⟨H1, hH1⟩ : ∃ H1, s.H.set b none = H1 := ⟨_, rfl⟩
  rw [hH1] at h
  obtain ⟨N, hNd⟩ : ∃ N, (es.map fun e => sround P g0 rec nt rd L rest K H1 s.n b s.T e).foldl (fun a r => bif a.ble (nmT r) then nmT r else a) s.n = N := ⟨_, rfl⟩
  obtain ⟨T1, hT1⟩ : ∃ T1, joinT s.n nt (((es.map fun e => sround P g0 rec nt rd L rest K H1 s.n b s.T e).filter fun r => !rets r).map slT) = T1 := ⟨_, rfl⟩
  obtain ⟨TR, hTR⟩ : ∃ TR, joinT s.n nt (((es.map fun e => sround P g0 rec nt rd L rest K H1 s.n b s.T e).filter rets).map slT) = TR := ⟨_, rfl⟩
  rw [hNd, hT1, hTR] at h
  have ho1 : ∀ t, nt ≤ t → T1.get t = none := fun t ht => by rw [← hT1]; exact joinT_out ht
  have hoR : ∀ t, nt ≤ t → TR.get t = none := fun t ht => by rw [← hTR]; exact joinT_out ht
  obtain ⟨kf, hkf⟩ : ∃ kf : MapEntry → Bool, kf = fun e => rets (sround P g0 rec nt rd L rest K H1 s.n b s.T e) := ⟨_, rfl⟩
  cases hchk : (s.n.ble N && (es.all fun e => fine nt s.n N T1 TR (rets (sround P g0 rec nt rd L rest K H1 s.n b s.T e)) (sround P g0 rec nt rd L rest K H1 s.n b s.T e))
                && ((es.all fun e => rets (sround P g0 rec nt rd L rest K H1 s.n b s.T e)) || es.all fun e => fine nt s.n N T1 TR (rets (sround P g0 rec nt rd L rest K H1 s.n b s.T e)) (sround P g0 rec nt rd L rest K H1 s.n b T1 e))) with
  | false => simp only [hchk, cond_false] at h; cases h
  | true =>
  simp only [hchk, cond_true] at h
  simp only [Bool.and_eq_true] at hchk
  obtain ⟨⟨hnN, hf0⟩, hf1⟩ := hchk
  have hnN : s.n ≤ N := Nat.le_of_ble_eq_true hnN
  have hf0 : ∀ e ∈ es, fine nt s.n N T1 TR (kf e) (sround P g0 rec nt rd L rest K H1 s.n b s.T e) = true := fun e he => by rw [hkf]; exact List.all_eq_true.1 hf0 e he
  have hf1 : (∃ e ∈ es, kf e = false) → ∀ e ∈ es, fine nt s.n N T1 TR (kf e) (sround P g0 rec nt rd L rest K H1 s.n b T1 e) = true := fun ⟨e0, he0, hk0⟩ e he => by
    rw [Bool.or_eq_true] at hf1
    rcases hf1 with hf1 | hf1
    · have := List.all_eq_true.1 hf1 e0 he0
      have hk0' : rets (sround P g0 rec nt rd L rest K H1 s.n b s.T e0) = false := by rw [hkf] at hk0; exact hk0
      exact absurd (hk0'.symm.trans this) (by simp)
    · rw [hkf]; exact List.all_eq_true.1 hf1 e he
  have hbn : H1.get b = none := by rw [← hH1]; exact Tr.get_set_self _ _ _
  have hGsub : ∀ k o, H1.get k = some o → s.H.get k = some o := fun k o hk => by
    rw [← hH1] at hk
    by_cases e : k = b
    · rw [e, Tr.get_set_self] at hk; cases hk
    · rwa [Tr.get_set_ne _ _ e] at hk
  have hsame : ∀ k, k < s.n → k ∉ b :: s.wr → H1.get k = s.H.get k := fun k _ hk => by
    simp only [List.mem_cons, not_or] at hk
    rw [← hH1]; exact Tr.get_set_ne _ _ hk.1
  have hlow1 : Low s.n s.H → Low s.n H1 := fun h0 => by rw [← hH1]; exact h0.set (h0.lt (by rw [hHb]; simp)) _
  have hlowN : Low s.n s.H → Low N H1 := fun h0 k hk => hlow1 h0 k (by omega)
  -- what the start shows
  have start : ∀ {E0 : Env} {w0 : World} {E : Env} {a : Act} {w : World}, FRm P g0 E0 w0 E nt rd s a w →
      ∃ arr : Array MapEntry, (arr.toList.map (·.born)).Nodup ∧ (∀ y ∈ arr.toList, y.born < since) ∧ LF arr E #[] es ∧ E.ρ m ≠ E.ρ b ∧ MB P g0 nt E0 w0 rd (b :: s.wr) [] b m since arr E a w s.T H1.get #[] := by
    intro E0 w0 E a w hf
    obtain ⟨h1, h2⟩ := hf.hr.obj b _ hHb
    obtain ⟨arr, h3, h4⟩ := hf.hr.obj m _ hHm
    have hne : E.ρ m ≠ E.ρ b := fun e => hmb (hf.hr.inj m b (by rw [hHm]; simp) (by rw [hHb]; simp) e)
    refine ⟨arr, h4.nd, h4.lt, ?_, hne, hf.tr, hf.hr.sub hGsub, hf.hr.live (by rw [hHb]; simp), h2, h1, fun i hi e => ?_, h3, hf.stp.sub (fun y hy _ => by simp [hy]), by have := hf.df; rw [hdf0] at this; exact this, hf.gl, hf.rd⟩
    · obtain ⟨l, k1, k2⟩ := h4.perm
      refine ⟨l, ?_, k2⟩
      have : (leftOf arr #[]).toList = arr.toList := by unfold leftOf; rw [Array.toList_filter, List.filter_eq_self.2 (by simp)]
      rw [this]; exact k1
    · cases hg : H1.get i with
      | none => exact hi hg
      | some o =>
        have := hf.hr.inj i b (by rw [hGsub i o hg]; simp) (by rw [hHb]; simp) e
        rw [this, hbn] at hg; cases hg
  -- what the end shows
  have fin : ∀ {E0 : Env} {w0 : World} {E : Env} {E1 : Env} {arr : Array MapEntry} {a1 : Act} {w1 : World} {seen1 : Array Nat} {T' : Tr Value}, Low s.n s.H → Free E s.n N → Ext E E1 → (∀ b, E1.dom b ↔ E.dom b) → MB P g0 nt E0 w0 rd (b :: s.wr) [] b m since arr E1 a1 w1 T' H1.get seen1 →
      ∃ E', Ext E E' ∧ Took E E' s.n N ∧ FRm P g0 E0 w0 E' nt rd ⟨T', H1, N, b :: s.wr, []⟩ a1 w1 := by
    intro E0 w0 E E1 arr a1 w1 seen1 T' hl hfree hx hd hm
    have hfr1 : Free E1 s.n N := fun i h1 h2 hi => hfree i h1 h2 ((hd i).1 hi)
    have hxi := Env.idle_ext (b := b) hfr1
    refine ⟨E1.idle s.n N b, hx.trans hxi, fun i => ?_, hm.tr.ext hxi, hm.hr.idle hfr1 hm.db, hlowN hl, ?_, hm.df.ext hxi, hm.gl.ext hxi, fun l hl => hxi.n l (hm.rdd l hl)⟩
    · show (E1.dom i ∨ _) ↔ _
      rw [hd i]
    · exact hm.stp.trans' (Stp.idle hfr1 hm.db) (fun y hy => by
        rcases hy with hy | hy
        · simp at hy; subst hy; simp
        · exact hy)
  cases hany : (es.any fun e => rets (sround P g0 rec nt rd L rest K H1 s.n b s.T e)) with
  | true =>
    simp only [hany, cond_true, Option.some.injEq, Res.code.injEq] at h
    obtain ⟨rfl, rfl⟩ := h
    obtain ⟨er, her, hkr⟩ := List.any_eq_true.1 hany
    have hex : ∃ e ∈ es, kf e = true := ⟨er, her, by rw [hkf]; exact hkr⟩
    refine ⟨⟨⟨hnN, hsame, hlowN⟩, fun k hk => by simp [hk]⟩, fun E0 w0 E a w hf hfree => ?_⟩
    obtain ⟨arr, hnd, hlt, hL, hne, hMB⟩ := start hf
    refine shead (Es := E) (Tend := T1) hrec hK hnd hlt (by simp) ho1 hoR (hlow1 hf.lw) hfree hf1 (fun hall => ?_) hf.rd (fun hall => ?_) (fun _ E1 a1 w1 seen1 hx hd hm => ?_) es.length E a w s.T es #[] rfl (fun _ h => h) hf0 (fun he => ?_) (fun h => h) (.refl E) (fun _ => Iff.rfl) hMB hne hL
    · obtain ⟨e, he, hk⟩ := hex; rw [hall e he] at hk; cases hk
    · obtain ⟨e, he, hk⟩ := hex; rw [hall e he] at hk; cases hk
    · obtain ⟨E', k1, k2, k3⟩ := fin hf.lw hfree hx hd hm
      exact ⟨E', k1, k2, k3, trivial⟩
    · subst he; cases her
  | false =>
    simp only [hany, cond_false] at h
    have hall : ∀ e ∈ es, kf e = false := fun e he => by
      rw [hkf]
      cases hq : rets (sround P g0 rec nt rd L rest K H1 s.n b s.T e) with
      | false => exact hq
      | true => rw [List.any_eq_true.2 ⟨e, he, hq⟩] at hany; cases hany
    split at h
    case h_2 => cases h
    · rename_i T' hme
      simp only [Option.some.injEq, Res.code.injEq] at h
      obtain ⟨rfl, rfl⟩ := h
      refine ⟨⟨⟨hnN, hsame, hlowN⟩, fun k hk => by simp [hk]⟩, fun E0 w0 E a w hf hfree => ?_⟩
      obtain ⟨arr, hnd, hlt, hL, hne, hMB⟩ := start hf
      by_cases hes : es = []
      · subst hes
        obtain ⟨hok, _⟩ := mend_spec hme
        refine inLoop_round ?_
        rcases next_ok hMB (by simp) hne hlt hnd hL i0 hok hitv with ⟨_, hrun⟩ | ⟨e, Y1, Y2, e', W, hYe, _⟩
        · refine send_wp hMB hme q0 i0 hrun (fun E1 a1 w1 hx hd hm => ?_)
          obtain ⟨E', k1, k2, k3⟩ := fin hf.lw hfree hx hd hm
          exact ⟨E', k1, k2, k3, rfl⟩
        · cases Y1 <;> cases hYe
      · have hme1 : mend P g0 nt L K H1.get s.n b T1 = some T' := by
          cases es with
          | nil => exact absurd rfl hes
          | cons e l => exact hme
        refine shead (Es := E) (Tend := T') hrec hK hnd hlt (by simp) ho1 hoR (hlow1 hf.lw) hfree hf1 (fun _ => hme1) hf.rd (fun _ E1 a1 w1 seen1 hx hd hm => ?_) (fun hex => ?_) es.length E a w s.T es #[] rfl (fun _ h => h) hf0 (fun he => absurd he hes) (fun h => h) (.refl E) (fun _ => Iff.rfl) hMB hne hL
        · obtain ⟨E', k1, k2, k3⟩ := fin hf.lw hfree hx hd hm
          exact ⟨E', k1, k2, k3, rfl⟩
        · obtain ⟨e, he, hk⟩ := hex; rw [hall e he] at hk; cases hk
end
end Go.Proofs.YtgfjmkjhjfmbeaaGreat
