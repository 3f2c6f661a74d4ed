/- DERIVED. The machine M: the loop over a map that lays its entries into another map: all of it. -/
import Derived.Test.YtgfjmkjhjfmbeaaGreatM24
namespace Go.Proofs.YtgfjmkjhjfmbeaaGreat
open Go.RowKit

section
variable {P : Program} {g0 nt : Nat} {E0 : Env} {w0 : World} {rd : Option Nat} {wr : List Nat} {df : List ADf} {b m ck : Nat} {arr : Array MapEntry}

theorem mhead {L : MLoop} {K : MKeys} (hK : mkeys L = some K) {G1 : Gh} {B : Nat} {esB es : List MapEntry} {ckB n : Nat} {kt et : TypeId} {T1 Tend : Tr Value} {Es : Env} {Q : Exit → Act → World → Prop}
    (hnd : (arr.toList.map (·.born)).Nodup) (hlt : ∀ x ∈ arr.toList, x.born < ck) (hbw : b ∈ wr) (hBw : B ∈ wr) (hmB : m ≠ B) (hGm : G1 m ≠ none) (hu : P.underlying K.ut = some (.map kt et)) (hkt : (P.underlying kt).isSome = true) (hside : Side P kt es esB)
    (h1 : ∀ e ∈ es, mround P g0 nt L K (gset G1 B none) n b B T1 T1 e = true) (hend : mend P g0 nt L K (gset G1 B none) n b T1 = some Tend)
    (hq : ∀ E1 a1 w1 X1 seen1, Ext Es E1 → (∀ b, E1.dom b ↔ Es.dom b) → MB P g0 nt E0 w0 rd wr df b m ck arr E1 a1 w1 Tend (gx G1 B esB ckB X1) seen1 → X1.Perm es → Q (.exit L.x) a1 w1) :
    ∀ (k : Nat) (E : Env) (a : Act) (w : World) (T : Tr Value) (X Y : List MapEntry) (seen : Array Nat), Y.length = k → (∀ e ∈ es, mround P g0 nt L K (gset G1 B none) n b B T1 T e = true) → (∀ t, t ∉ mdsts L → T1.get t = T.get t) → (Y = [] → T = T1) →
      Ext Es E → (∀ b, E.dom b ↔ Es.dom b) → (∀ l, rd = some l → Es.dom l) → MB P g0 nt E0 w0 rd wr df b m ck arr E a w T (gx G1 B esB ckB X) seen → E.ρ m ≠ E.ρ b → LF arr E seen Y → (X ++ Y).Perm es → inLoopIn (rdF Es rd) 0 P L.code Q a w := by
  intro k
  induction k with
  | zero =>
    intro E a w T X Y seen hY hT hT1 hYT hxs hds hrs h hmb hL hp
    have hY : Y = [] := List.eq_nil_of_length_eq_zero hY
    subst hY
    have hTT := hYT rfl
    subst hTT
    obtain ⟨o0, o1, o2, q0, i0, _, _, _, _⟩ := mkeys_spec hK
    obtain ⟨hok, hit, _⟩ := mend_spec hend
    refine inLoop_round ?_
    rcases next_ok h hbw hmb hlt hnd hL i0 hok hit with ⟨_, hrun⟩ | ⟨e, Y1, Y2, e', W, hYe, _⟩
    · rw [← rdF_ext hxs hrs]
      exact mend_wp hK gx_sub h hend q0 i0 hrun (fun E1 a1 w1 hx hd hm => hq E1 a1 w1 X _ (hxs.trans hx) (fun b => (hd b).trans (hds b)) hm (by simpa using hp))
    · cases Y1 <;> cases hYe
  | succ k ih =>
    intro E a w T X Y seen hY hT hT1 hYT hxs hds hrs h hmb hL hp
    obtain ⟨o0, o1, o2, q0, i0, _, _, _, _⟩ := mkeys_spec hK
    have hYne : ∃ y, y ∈ Y := by cases Y with | nil => simp at hY | cons y l => exact ⟨y, by simp⟩
    obtain ⟨y, hy⟩ := hYne
    have hyes : y ∈ es := hp.mem_iff.1 (by simp [hy])
    have hit : okX g0 K.it0 = true ∧ aev T K.it0 = .pointer (some ⟨b, 0, none⟩) := by
      have := hT y hyes
      unfold mround at this
      cases hms : mslots P g0 nt L K (gset G1 B none) n b T y with
      | none => simp [hms] at this
      | some Te => exact ⟨(mslots_spec hms).1, (mslots_spec hms).2.1⟩
    refine inLoop_round ?_
    rcases next_ok h hbw hmb hlt hnd hL i0 hit.1 hit.2 with ⟨hYe, _⟩ | ⟨e, Y1, Y2, e', W, rfl, hek, hev, hmem, hrun, hm, hL2⟩
    · subst hYe; simp at hY
    · obtain ⟨hee, hfresh⟩ := hside.fresh hp
      have hpk : plainKeys (esB ++ X) = true := plainKeys_of fun x hx => by
        rcases List.mem_append.1 hx with hx | hx
        · exact plainKeys_mem hside.pb hx
        · exact plainKeys_mem hside.pk (hp.mem_iff.1 (by simp [hx]))
      rw [← rdF_ext hxs hrs]
      refine mround_wp hK hm hnd hmem (hT e hee) hT1 hek hev q0 i0 hrun hBw hmB hGm hu hkt hpk (hside.ko e hee) hfresh (hside.b0 e hee) (fun E1 a1 w2 hx hd hm2 => ?_)
      rw [rdF_ext hxs hrs]
      refine ih E1 a1 w2 T1 (X ++ [e]) (Y1 ++ Y2) _ (by simp at hY ⊢; omega) h1 (fun _ _ => rfl) (fun _ => rfl) (hxs.trans hx) (fun b => (hd b).trans (hds b)) hrs hm2 (by rw [hx.ρ m h.dm, hx.ρ b h.db]; exact hmb) (hL2.ext hx) ?_
      refine (List.Perm.trans ?_ hp)
      rw [List.append_assoc]
      exact List.Perm.append_left X (show (e :: (Y1 ++ Y2)).Perm (Y1 ++ e :: Y2) from List.perm_middle.symm)

theorem HR.reperm {E : Env} {G : Gh} {w : World} {B k : Nat} {x y : List MapEntry} (h : HR P E G w) (hB : G B = some (.map x k)) (p : x.Perm y) : HR P E (gset G B (some (.map y k))) w := by
  have hn : ∀ i, gset G B (some (.map y k)) i ≠ none → G i ≠ none := fun i hi => by
    unfold gset at hi
    by_cases e : i = B
    · rw [e, hB]; simp
    · rwa [if_neg e] at hi
  refine ⟨h.lt, fun id hid => ?_, fun id o ho => ?_, fun i j hi hj => h.inj i j (hn i hi) (hn j hj)⟩
  · unfold gset
    rw [if_neg (fun e => hid (by rw [e]; exact h.live (by rw [hB]; simp)))]
    exact h.dom id hid
  · unfold gset at ho
    by_cases e : id = B
    · rw [if_pos e] at ho; cases ho; subst e
      obtain ⟨es', h1, h2⟩ := h.obj id _ hB
      exact ⟨es', h1, h2.perm' p⟩
    · rw [if_neg e] at ho; exact h.obj id o ho

theorem apartKeys_spec {kt : TypeId} {k : Value} {es : List MapEntry} (h : apartKeys P kt k es = true) : ∀ x ∈ es, eqK P kt k x = some false := fun x hx => by
  have := List.all_eq_true.1 h x hx
  cases hq : eqK P kt k x with
  | none => simp [hq] at this
  | some b => cases b <;> simp [hq] at this; rfl
theorem allApart_spec {kt : TypeId} : ∀ {es : List MapEntry}, allApart P kt es = true → es.Pairwise fun e x => eqK P kt e.key x = some false ∧ eqK P kt x.key e = some false
  | [], _ => .nil
  | e :: es, h => by
    simp only [allApart, Bool.and_eq_true] at h
    refine .cons (fun x hx => ⟨apartKeys_spec h.1.1 x hx, ?_⟩) (allApart_spec h.2)
    have := List.all_eq_true.1 h.1.2 x hx
    cases hq : eqK P kt x.key e with
    | none => simp [hq] at this
    | some b => cases b <;> simp [hq] at this; rfl

theorem anonAll_get {T : Tr Value} {l : List Tmp} {R : Tr Value} {t : Tmp} (h : t ∉ l) : (anonAll T l R).get t = R.get t := anonAll_in h

/-- The law on the loop. -/
theorem mloop_ok {c : Code} {s s' : Fs} {x : Ex} (h : mloop P g0 nt c s = some (.code x s')) : LoopOK P g0 nt rd c s x s' := by
  unfold mloop at h
  cases hpar : mparse c with
  | none => simp [hpar] at h
  | some L =>
  simp only [hpar] at h
  have hc := mparse_code hpar
  subst hc
  cases hK : mkeys L with
  | none => simp [hK] at h
  | some K =>
  simp only [hK] at h
  split at h
  case h_2 => cases h
  rename_i b hitv
  split at h
  case h_2 => cases h
  rename_i m since hHb
  split at h
  case h_2 => cases h
  rename_i es ck hHm
  cases hcond : (since.beq ck && !(m.beq b)) with
  | false => simp [hcond] at h
  | true =>
  simp only [hcond, cond_true] at h
  simp only [Bool.and_eq_true, Bool.not_eq_true'] at hcond
  have hsince : since = ck := Nat.eq_of_beq_eq_true hcond.1
  subst hsince
  have hmb : m ≠ b := fun e => by rw [e] at hcond; simp at hcond
  obtain ⟨o0, o1, o2, q0, i0, _, _, _, _⟩ := mkeys_spec hK
  -- what the start shows
  have start : ∀ {E0 : Env} {w0 : World} {E : Env} {a : Act} {w : World} {wr : List Nat} {G : Gh}, FRm P g0 E0 w0 E nt rd s a w → (∀ y ∈ s.wr, y ∈ wr) → (∀ k o, G k = some o → s.H.get k = some o) → G b = none →
      ∃ arr : Array MapEntry, (arr.toList.map (·.born)).Nodup ∧ (∀ y ∈ arr.toList, y.born < since) ∧ LF arr E #[] es ∧ E.ρ m ≠ E.ρ b ∧ MB P g0 nt E0 w0 rd wr s.df b m since arr E a w s.T G #[] := by
    intro E0 w0 E a w wr G hf hwr hsub hGb
    obtain ⟨h1, h2⟩ := hf.hr.obj b _ hHb
    obtain ⟨arr, h3, h4⟩ := hf.hr.obj m _ hHm
    have hne : E.ρ m ≠ E.ρ b := fun e => hmb (hf.hr.inj m b (by rw [hHm]; simp) (by rw [hHb]; simp) e)
    refine ⟨arr, h4.nd, h4.lt, ?_, hne, hf.tr, hf.hr.sub hsub, hf.hr.live (by rw [hHb]; simp), h2, h1, fun i hi e => ?_, h3, hf.stp.sub (fun y hy _ => hwr y hy), hf.df, hf.gl, hf.rd⟩
    · obtain ⟨l, k1, k2⟩ := h4.perm
      refine ⟨l, ?_, k2⟩
      have : (leftOf arr #[]).toList = arr.toList := by unfold leftOf; rw [Array.toList_filter, List.filter_eq_self.2 (by simp)]
      rw [this]; exact k1
    · cases hg : G i with
      | none => exact hi hg
      | some o =>
        have := hf.hr.inj i b (by rw [hsub i o hg]; simp) (by rw [hHb]; simp) e
        rw [this, hGb] at hg; cases hg
  have hGm1 : (s.H.set b none).get m = some (.map es since) := by rw [Tr.get_set_ne _ _ hmb, hHm]
  have hGsub : ∀ k o, (s.H.set b none).get k = some o → s.H.get k = some o := fun k o hk => by
    by_cases e : k = b
    · rw [e, Tr.get_set_self] at hk; cases hk
    · rwa [Tr.get_set_ne _ _ e] at hk
  have hbn : (s.H.set b none).get b = none := Tr.get_set_self _ _ _
  have took : ∀ {E E1 : Env} {k : Nat}, (∀ b, E1.dom b ↔ E.dom b) → Took E E1 k k := fun h i => ⟨fun hi => .inl ((h i).1 hi), fun hi => (h i).2 (hi.resolve_right (by omega))⟩
  split at h
  · -- nothing in it
    cases hme : mend P g0 nt L K (s.H.set b none).get s.n b s.T with
    | none => simp [hme] at h
    | some T' =>
      simp only [hme, Option.some.injEq, Res.code.injEq] at h
      obtain ⟨rfl, rfl⟩ := h
      refine ⟨⟨⟨Nat.le_refl _, fun k hk hkw => ?_, fun h0 => h0.set (h0.lt (by rw [hHb]; simp)) _⟩, fun k hk => by simp [hk]⟩, fun E0 w0 E a w hf hfree => ?_⟩
      · simp only [List.mem_cons, not_or] at hkw
        exact Tr.get_set_ne _ _ hkw.1
      · obtain ⟨arr, hnd, hlt, hL, hne, hMB⟩ := start (wr := b :: s.wr) (G := (s.H.set b none).get) hf (fun y hy => by simp [hy]) hGsub hbn
        obtain ⟨hok, _⟩ := mend_spec hme
        refine inLoop_round ?_
        rcases next_ok hMB (by simp) hne hlt hnd hL i0 hok hitv with ⟨_, hrun⟩ | ⟨e, Y1, Y2, e', W, hYe, _⟩
        · refine mend_wp hK (fun _ _ h => h) hMB hme q0 i0 hrun (fun E1 a1 w1 hx hd hm => ?_)
          exact ⟨E1, hx, took hd, ⟨hm.tr, hm.hr, hf.lw.set (hf.lw.lt (by rw [hHb]; simp)) _, hm.stp, hm.df, hm.gl, hm.rdd⟩, rfl⟩
        · cases Y1 <;> cases hYe
  · rename_i e1 es1
    split at h
    case h_1 => cases h
    rename_i Te hTe
    split at h
    case h_2 => cases h
    rename_i B hB
    split at h
    case h_2 => cases h
    rename_i esB ckB kt et hHB hu
    cases hcnd : (!(B.beq m) && (P.underlying kt).isSome && plainKeys (e1 :: es1) && plainKeys esB && ((e1 :: es1).all fun e => e.born.beq 0) && ((e1 :: es1).all fun e => keyOk P kt false e.key) && ((e1 :: es1).all fun e => apartKeys P kt e.key esB) && allApart P kt (e1 :: es1)) with
    | false => simp only [hcnd, cond_false] at h; cases h
    | true =>
    simp only [hcnd, cond_true] at h
    simp only [Bool.and_eq_true, Bool.not_eq_true'] at hcnd
    obtain ⟨⟨⟨⟨⟨⟨⟨c1, c2⟩, c3⟩, c4⟩, c5⟩, c6⟩, c7⟩, c8⟩ := hcnd
    have hmB : m ≠ B := fun e => by rw [e] at c1; simp at c1
    have hside : Side P kt (e1 :: es1) esB := ⟨c3, c4, fun e he => Nat.eq_of_beq_eq_true (List.all_eq_true.1 c5 e he), fun e he => List.all_eq_true.1 c6 e he, fun e he => apartKeys_spec (List.all_eq_true.1 c7 e he), allApart_spec c8⟩
    obtain ⟨es, hes⟩ : ∃ es, e1 :: es1 = es := ⟨_, rfl⟩
    rw [hes] at hside hHm hGm1 h start
    obtain ⟨T1, hT1⟩ : ∃ T1, anonAll Te (mdsts L) s.T = T1 := ⟨_, rfl⟩
    rw [hT1] at h
    cases hrr : ((es.all fun e => mround P g0 nt L K ((s.H.set b none).set B none).get s.n b B T1 s.T e) && (es.all fun e => mround P g0 nt L K ((s.H.set b none).set B none).get s.n b B T1 T1 e)) with
    | false => simp only [hrr, cond_false] at h; cases h
    | true =>
    simp only [hrr, cond_true] at h
    simp only [Bool.and_eq_true] at hrr
    rw [get_gset] at hrr h
    cases hme : mend P g0 nt L K (gset (s.H.set b none).get B none) s.n b T1 with
    | none => simp only [hme] at h; cases h
    | some T' =>
    simp only [hme, Option.some.injEq, Res.code.injEq] at h
    obtain ⟨rfl, rfl⟩ := h
    have hBb : B ≠ b := fun e => by rw [e, hbn] at hHB; cases hHB
    have hHB' : s.H.get B = some (.map esB ckB) := by rw [Tr.get_set_ne _ _ hBb] at hHB; exact hHB
    have hsb : ∀ {H : Tr AObj} (x : Option AObj), Low s.n H → H.get b ≠ none → Low s.n (H.set b x) := fun x h0 hg => h0.set (h0.lt hg) x
    have hlow : Low s.n s.H → Low s.n ((s.H.set b none).set B (some (.map (esB ++ es) (ckB + es.length)))) := fun h0 => (h0.set (h0.lt (by rw [hHb]; simp)) _).set (h0.lt (by rw [hHB']; simp)) _
    refine ⟨⟨⟨Nat.le_refl _, fun k hk hkw => ?_, hlow⟩, fun k hk => by simp [hk]⟩, fun E0 w0 E a w hf hfree => ?_⟩
    · simp only [List.mem_cons, not_or] at hkw
      show ((s.H.set b none).set B _).get k = _
      rw [Tr.get_set_ne _ _ hkw.1, Tr.get_set_ne _ _ hkw.2.1]
    · have hgx0 : ∀ k o, gx (s.H.set b none).get B esB ckB [] k = some o → s.H.get k = some o := fun k o hk => by
        unfold gx gset at hk
        by_cases e : k = B
        · rw [if_pos e] at hk; rw [e, hHB', ← hk]; simp
        · rw [if_neg e] at hk; exact hGsub k o hk
      obtain ⟨arr, hnd, hlt, hL, hne, hMB⟩ := start (wr := B :: b :: s.wr) (G := gx (s.H.set b none).get B esB ckB []) hf (fun y hy => by simp [hy]) hgx0 (by unfold gx gset; rw [if_neg (Ne.symm hBb)]; exact hbn)
      refine mhead (Es := E) hK hnd hlt (by simp) (by simp) hmB (by rw [hGm1]; simp) hu c2 hside (fun e he => List.all_eq_true.1 hrr.2 e he) hme (fun E1 a1 w1 X1 seen1 hx hd hm hp => ?_) es.length E a w s.T [] es #[] rfl (fun e he => List.all_eq_true.1 hrr.1 e he) (fun t ht => by rw [← hT1, anonAll_in ht]) (fun he => by rw [he] at hes; cases hes) (.refl E) (fun _ => Iff.rfl) hf.rd hMB hne hL (.refl _)
      have hfin : HR P E1 ((s.H.set b none).set B (some (.map (esB ++ es) (ckB + es.length)))).get w1 := by
        rw [get_gset]
        have := hm.hr.reperm (B := B) (by unfold gx gset; rw [if_pos rfl]) (List.Perm.append_left esB hp)
        unfold gx at this
        rw [gset2, hp.length_eq] at this
        exact this
      exact ⟨E1, hx, took hd, ⟨hm.tr, hfin, hlow hf.lw, hm.stp, hm.df, hm.gl, hm.rdd⟩, rfl⟩
end
end Go.Proofs.YtgfjmkjhjfmbeaaGreat
