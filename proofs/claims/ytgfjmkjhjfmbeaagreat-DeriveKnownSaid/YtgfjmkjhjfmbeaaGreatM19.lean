/- DERIVED. The machine M, nineteenth part: regions whose order is open, and all together. -/
import Derived.Test.YtgfjmkjhjfmbeaaGreatM18
namespace Go.Proofs.YtgfjmkjhjfmbeaaGreat
open Go.RowKit

section
variable {P : Program} {g0 : Nat} {rec : Task → Fs → Res} {rd : Option Nat} {nt : Nat} {ops : Array Oper} {s0 : Fs}

theorem evDraw_run (hrec : ∀ t s, TOK P g0 t s (rec t s)) : ∀ (l : List Nat) (done : Nat) (rs : List Rec) (s : Fs) (x : Ex) (s' : Fs), evDraw P g0 rec nt rd ops (preAll ops.toList []) l done rs s = .code x s' → CI P g0 rd nt ops s0 rs done s →
    x = .normal ∧ ∃ L, CI P g0 rd nt ops s0 L (2 ^ ops.size - 1) s' ∧ L.length = ops.size
  | [], done, rs, s, x, s', hr, hci => by
    simp only [evDraw] at hr
    cases hb : (done.beq (2 ^ ops.size - 1) && rs.length.beq ops.size) with
    | false => simp [hb] at hr
    | true =>
      simp only [hb, cond_true, Res.code.injEq] at hr
      obtain ⟨rfl, rfl⟩ := hr
      simp only [Bool.and_eq_true] at hb
      have := Nat.eq_of_beq_eq_true hb.1
      exact ⟨rfl, rs, by rw [← this]; exact hci, Nat.eq_of_beq_eq_true hb.2⟩
  | i :: l, done, rs, s, x, s', hr, hci => by
    simp only [evDraw] at hr
    cases hb : (!(done.testBit i) && ((preAll ops.toList []).getD i 0 &&& done).beq ((preAll ops.toList []).getD i 0)) with
    | false => rw [hb] at hr; simp at hr
    | true =>
      rw [hb] at hr
      simp only [cond_true] at hr
      simp only [Bool.and_eq_true] at hb
      cases ho : ops[i]? with
      | none => simp [ho] at hr
      | some o =>
        simp only [ho] at hr
        cases hg : guardOk ops s.T o with
        | false =>
          simp only [hg, Bool.not_false, cond_true] at hr
          cases hp : putT nt s.T o.dst undef with
          | none => simp [hp] at hr
          | some T' =>
            simp only [hp] at hr
            obtain ⟨r, er⟩ : ∃ r : Rec, (⟨i, undef, s.n, s.n, [], some [], .e, s.H⟩ : Rec) = r := ⟨_, rfl⟩
            rw [er] at hr
            cases hfit : fits (preAll ops.toList []) r rs with
            | false => simp [hfit] at hr
            | true =>
              simp only [hfit, cond_true] at hr
              have hri : r.i = i := by rw [← er]
              have hnoK : ∀ k, inK r k ≠ true := fun k hk => by
                rcases inK_iff.1 hk with h | h
                · rw [← er] at h; cases h
                · rw [← er] at h; have h1 : s.n ≤ k := h.1; have h2 : k < s.n := h.2; omega
              rw [← hri] at hr
              refine evDraw_run hrec l _ _ _ x s' hr (hci.push (by rw [hri]; exact ho) (by rw [hri]; exact hb.1) (by rw [hri]; exact hb.2) hfit (by rw [← er]; exact hp) (by rw [← er]) (by rw [← er]) (Nat.le_refl _) rfl ⟨(fun k hk => by rw [← er] at hk; cases hk), fun k hk => hk⟩ (fun h => h) (fun k _ => by rw [if_neg (hnoK k)]) ?_)
              refine ⟨o, fun _ => none, by rw [hri]; exact ho, (fun k ob h => by cases h), fun k h => absurd rfl h, ?_⟩
              intro E a w K Q _ hsz hT hgl hH hfree hK
              have hT' : ∀ t ∈ o.looksAt ops, VR E ((s.T.get t).getD undef) (a.tmps.getD t undef) := fun t ht => by rw [hci.t t]; exact hT t ht
              unfold wpOpIn
              rw [hri]
              simp only [ho]
              rw [if_neg (by rw [guard_eq2 hT', hg]; simp)]
              refine ⟨fun f _ => rdF_fn E rd f, hK E undef w (fun _ => none) (by rw [← er]; exact VR.undef) (.refl E) (by rw [← er]; exact .refl E _) hH (fun k hk => absurd hk (hnoK k)) ((Stp.refl E w).sub (fun x hx => by cases hx)) (fun k hk => by rw [← er] at hk; cases hk)⟩
        | true =>
          simp only [hg, Bool.not_true, cond_false] at hr
          cases hok : okOps g0 o with
          | false => simp [hok] at hr
          | true =>
            simp only [hok, cond_true] at hr
            cases hc : isCall o with
            | some c =>
              simp only [hc] at hr
              obtain ⟨Hin, hHin⟩ : ∃ Hin, hide (preAll ops.toList []) i s.H rs = Hin := ⟨_, rfl⟩
              rw [hHin] at hr
              cases hcall : evCall P rec (callTo P (aev s.T) c) Hin s.n with
              | bad m tr => simp [hcall] at hr
              | code _ _ => simp [hcall] at hr
              | pan _ _ _ _ => simp [hcall] at hr
              | ret v H n wr =>
                simp only [hcall] at hr
                cases hp : putT nt s.T o.dst v with
                | none => simp [hp] at hr
                | some T' =>
                  simp only [hp] at hr
                  obtain ⟨r, er⟩ : ∃ r : Rec, (⟨i, v, s.n, n, wr, none, Hin, H⟩ : Rec) = r := ⟨_, rfl⟩
                  rw [er] at hr
                  cases hfit : (fits (preAll ops.toList []) r rs && (wr.all fun k => (Hin.get k).isSome)) with
                  | false => simp [hfit] at hr
                  | true =>
                    simp only [hfit, cond_true] at hr
                    simp only [Bool.and_eq_true] at hfit
                    have hri : r.i = i := by rw [← er]
                    rw [← hri] at hr
                    obtain ⟨hgr, hwp⟩ := call_wp hrec hc hok hcall (by simp) (by simp)
                    have hgr : Grw s.n n Hin H wr := hgr
                    have hhid : ∀ k, Hid1 (preAll ops.toList []) i rs k → k < s.n := fun k ⟨r', hr', _, _, h2⟩ => Nat.lt_of_lt_of_le h2 (hci.hi r' hr')
                    have hin_sub : ∀ k ob, Hin.get k = some ob → s.H.get k = some ob ∧ ¬ Hid1 (preAll ops.toList []) i rs k := fun k ob h => by
                      rw [← hHin, hide_get] at h
                      by_cases hh : Hid1 (preAll ops.toList []) i rs k
                      · rw [if_pos hh] at h; cases h
                      · rw [if_neg hh] at h; exact ⟨h, hh⟩
                    have hin_low : Low s.n s.H → Low s.n Hin := fun hl k hk => by
                      rw [← hHin, hide_get]; split
                      · rfl
                      · exact hl k hk
                    have hwin : ∀ k ∈ wr, Hin.get k ≠ none := fun k hk h => by
                      have := List.all_eq_true.1 hfit.2 k hk; rw [h] at this; cases this
                    have hnin : ∀ k, k ∈ wr → ¬ Hid1 (preAll ops.toList []) i rs k := fun k hk => by
                      cases hx : Hin.get k with
                      | none => exact absurd hx (hwin k hk)
                      | some ob => exact (hin_sub k ob hx).2
                    refine evDraw_run hrec l _ _ _ x s' hr (hci.push (by rw [hri]; exact ho) (by rw [hri]; exact hb.1) (by rw [hri]; exact hb.2) hfit.1 (by rw [← er]; exact hp) (by rw [← er]) (by rw [← er]) hgr.le rfl
                      ⟨fun k hk => by rw [← er] at hk; exact List.mem_append_left _ hk, fun k hk => List.mem_append_right _ hk⟩ (fun hl k hk => ?_) (fun k hk => ?_) ?_)
                    · show (unhide _ r.i s.H H rs).get k = none
                      rw [hri, unhide_get]
                      by_cases hh : Hid1 (preAll ops.toList []) i rs k
                      · have h1 := hhid k hh
                        have h2 := hgr.le
                        have hk : n ≤ k := hk
                        omega
                      · rw [if_neg hh]; exact hgr.low (hin_low hl) k hk
                    · show (unhide _ r.i s.H H rs).get k = _
                      have hk : k < n := hk
                      rw [hri, unhide_get]
                      by_cases hi : inK r k = true
                      · rw [if_pos hi]
                        have hnh : ¬ Hid1 (preAll ops.toList []) i rs k := by
                          rcases inK_iff.1 hi with h | h
                          · rw [← er] at h; exact hnin k h
                          · intro hh; have h1 := hhid k hh; rw [← er] at h; have h2 : s.n ≤ k := h.1; omega
                        rw [if_neg hnh, ← er]
                      · rw [if_neg hi]
                        by_cases hh : Hid1 (preAll ops.toList []) i rs k
                        · rw [if_pos hh]
                        · rw [if_neg hh]
                          have hkn : k < s.n := by
                            rcases Nat.lt_or_ge k s.n with h1 | h1
                            · exact h1
                            · exact absurd (inK_iff.2 (.inr (by rw [← er]; exact ⟨h1, hk⟩))) hi
                          rw [hgr.same k hkn (fun h => hi (inK_iff.2 (.inl (by rw [← er]; exact h)))), ← hHin, hide_get, if_neg hh]
                    · refine ⟨o, fun k => if k < s.n then Hin.get k else none, by rw [hri]; exact ho, fun k ob h => ?_, fun k h => ?_, ?_⟩
                      · have h : (if k < s.n then Hin.get k else none) = some ob := h
                        by_cases hk : k < s.n
                        · rw [if_pos hk] at h
                          rw [← hci.h k hk]; exact (hin_sub k ob h).1
                        · rw [if_neg hk] at h; cases h
                      · have h : (if k < s.n then Hin.get k else none) ≠ none := h
                        by_cases hk : k < s.n
                        · rw [if_pos hk] at h; rw [← er]; exact h
                        · rw [if_neg hk] at h; exact absurd rfl h
                      · intro E a w K Q hlw hsz hT hgl hH hfree hK
                        have hT' : ∀ t ∈ o.looksAt ops, VR E ((s.T.get t).getD undef) (a.tmps.getD t undef) := fun t ht => by rw [hci.t t]; exact hT t ht
                        have hl := hin_low (hci.low hlw)
                        have hGr : (fun k => if k < s.n then Hin.get k else none) = Hin.get := funext fun k => by
                          by_cases hk : k < s.n
                          · rw [if_pos hk]
                          · rw [if_neg hk]; exact (hl k (by omega)).symm
                        rw [hGr] at hH
                        unfold wpOpIn
                        rw [hri]
                        simp only [ho]
                        rw [if_pos (by rw [guard_eq2 hT', hg])]
                        refine hwp E w a rd K Q (aev_rel2 hT' hgl hok) hgl hH hl (by rw [← er] at hfree; exact hfree) (fun e w' he => ?_)
                        obtain ⟨E1, v', rfl, hv, hx, ht, hH1, hst⟩ := he
                        refine hK E1 v' w' H.get (by rw [← er]; exact hv) hx (by rw [← er]; exact ht) hH1 (fun k hk => by rw [← er]) (by rw [← er]; exact hst) (fun k hk _ => ?_)
                        rw [← er] at hk
                        show (if k < s.n then Hin.get k else none) ≠ none
                        rw [if_pos (hl.lt (hwin k hk))]; exact hwin k hk
            | none =>
              simp only [hc] at hr
              cases hde : isDefer o with
              | true => simp [hde] at hr
              | false =>
                have hdef := isDefer_false hde
                simp only [hde, cond_false] at hr
                obtain ⟨ids, hids⟩ : ∃ ids, idsOf (aev s.T) o = ids := ⟨_, rfl⟩
                rw [hids] at hr
                cases ha : aop P o (aev s.T) (restr ids s.H.get) s.n with
                | bad m => simp [ha] at hr
                | pan v => simp [ha] at hr
                | val v us k =>
                  simp only [ha] at hr
                  cases hky : (keysOk s.n k us (restr ids s.H.get) && ids.all (fun j => Nat.blt j s.n)) with
                  | false => simp [hky] at hr
                  | true =>
                    simp only [hky, cond_true] at hr
                    simp only [Bool.and_eq_true] at hky
                    cases hp : putT nt s.T o.dst v with
                    | none => simp [hp] at hr
                    | some T' =>
                      simp only [hp] at hr
                      obtain ⟨W, hWe⟩ : ∃ W, ((us.map (fun u => u.1)).filter (fun j => !(s.n.ble j && Nat.blt j (s.n + k)))) = W := ⟨_, rfl⟩
                      rw [hWe] at hr
                      obtain ⟨r, er⟩ : ∃ r : Rec, (⟨i, v, s.n, s.n + k, W, some ids, .e, applyUs s.H us⟩ : Rec) = r := ⟨_, rfl⟩
                      rw [er] at hr
                      cases hfit : fits (preAll ops.toList []) r rs with
                      | false => simp [hfit] at hr
                      | true =>
                        simp only [hfit, cond_true] at hr
                        have hri : r.i = i := by rw [← er]
                        rw [← hri] at hr
                        have hidn : ∀ j ∈ ids, j < s.n := fun j hj => Nat.le_of_ble_eq_true (List.all_eq_true.1 hky.2 j hj)
                        have hrn : ∀ j, restr ids s.H.get j ≠ none → j ∈ ids ∧ j < s.n ∧ restr ids s.H.get j = s.H.get j := fun j hj => by
                          unfold restr at hj ⊢
                          cases he : ids.elem j with
                          | false => rw [he] at hj; exact absurd rfl hj
                          | true => have hm : j ∈ ids := by simpa using he
                                    exact ⟨hm, hidn j hm, rfl⟩
                        have hus : ∀ u ∈ us, u.1 < s.n + k := keysOk_lt hky.1 (fun j hj => (hrn j hj).2.1)
                        have hkeyW : ∀ j, j ∈ us.map (fun u => u.1) → inK r j = true := fun j hj => by
                          rw [inK_iff, ← er]
                          by_cases h : s.n ≤ j ∧ j < s.n + k
                          · exact .inr h
                          · left
                            rw [← hWe]
                            refine List.mem_filter.2 ⟨hj, ?_⟩
                            cases h1 : (s.n.ble j && Nat.blt j (s.n + k)) with
                            | false => rfl
                            | true =>
                              simp only [Bool.and_eq_true] at h1
                              exact absurd ⟨Nat.le_of_ble_eq_true h1.1, Nat.le_of_ble_eq_true h1.2⟩ h
                        have hWus : ∀ j ∈ r.W, j ∈ us.map (fun u => u.1) := fun j hj => by
                          rw [← er] at hj; have hj : j ∈ W := hj; rw [← hWe] at hj; exact (List.mem_filter.1 hj).1
                        have hkn : ∀ j, s.n ≤ j → j < s.n + k → j ∈ us.map (fun u => u.1) := fun j h1 h2 => by
                          have hk := hky.1
                          simp only [keysOk, Bool.and_eq_true, Bool.or_eq_true] at hk
                          have hk1 : k ≤ 1 := Nat.le_of_ble_eq_true hk.1.1
                          rcases hk.2 with h3 | h3
                          · have := Nat.eq_of_beq_eq_true h3; omega
                          · obtain ⟨u, hu, he⟩ := List.any_eq_true.1 h3
                            have := Nat.eq_of_beq_eq_true he
                            exact List.mem_map.2 ⟨u, hu, by omega⟩
                        refine evDraw_run hrec l _ _ _ x s' hr (hci.push (by rw [hri]; exact ho) (by rw [hri]; exact hb.1) (by rw [hri]; exact hb.2) hfit (by rw [← er]; exact hp) (by rw [← er]) (by rw [← er]) (Nat.le_add_right _ _) rfl
                          ⟨fun j hj => List.mem_append_left _ (hWus j hj), fun j hj => List.mem_append_right _ hj⟩ (fun hl => keysOk_low hl hus) (fun j hj => ?_) ?_)
                        · show (applyUs s.H us).get j = _
                          by_cases hi : inK r j = true
                          · rw [if_pos hi, ← er]
                          · rw [if_neg hi, applyUs_get]
                            exact upd_out _ _ _ (fun h => hi (hkeyW j h))
                        · refine ⟨o, restr ids s.H.get, by rw [hri]; exact ho, fun j ob h => ?_, fun j h => ?_, ?_⟩
                          · obtain ⟨_, h2, h3⟩ := hrn j (by rw [h]; simp)
                            rw [← hci.h j h2, ← h3]; exact h
                          · rw [← er]; exact (hrn j h).1
                          · intro E a w K Q _ hsz hT hgl hH hfree hK
                            have hT' : ∀ t ∈ o.looksAt ops, VR E ((s.T.get t).getD undef) (a.tmps.getD t undef) := fun t ht => by rw [hci.t t]; exact hT t ht
                            unfold wpOpIn
                            rw [hri]
                            simp only [ho]
                            rw [if_pos (by rw [guard_eq2 hT', hg])]
                            have hs := aop_ok (n := s.n) hH (o := o) (aev_rel2 hT' hgl hok)
                            rw [ha] at hs
                            rw [← er] at hfree
                            obtain ⟨nx, w', E1, hrun, hnx, hdom, hH1, hst, hlive⟩ := hs (fun hk => hfree s.n (Nat.le_refl _) (by show _ < s.n + k; omega))
                            refine wpIn_of_run hdef hrun ?_
                            have hst' : Stp E E1 r.W w w' := hst.sub (fun y hy hd => by
                              rcases inK_iff.1 (hkeyW y hy) with h | h
                              · exact h
                              · rw [← er] at h; exact absurd hd (hfree y h.1 h.2))
                            have fin : ∀ v', VR E1 v v' → K (a.put o.dst v') w' := fun v' hv => by
                              refine hK E1 v' w' _ (by rw [← er]; exact hv) hst.ext (by rw [← er]; exact hdom) hH1 (fun j hj => ?_) hst' (fun j hj hd => ?_)
                              · have hm : j ∈ us.map (fun u => u.1) := by
                                  rcases inK_iff.1 hj with h | h
                                  · exact hWus j h
                                  · rw [← er] at h; exact hkn j h.1 h.2
                                rw [← er]
                                show upd us _ j = (applyUs s.H us).get j
                                rw [applyUs_get]
                                exact upd_in us _ _ j hm
                              · obtain ⟨u, hu, e⟩ := List.mem_map.1 (hWus j hj)
                                rw [← e] at hd ⊢; exact hlive u hu hd
                            rcases hnx with ⟨v', rfl, hv⟩ | ⟨rfl, rfl⟩
                            · exact fin v' hv
                            · exact fin undef VR.undef
end
end Go.Proofs.YtgfjmkjhjfmbeaaGreat
