/- DERIVED. The machine M: the loop over a map that lays its entries into another map: what it says of the model. -/
import Derived.Test.YtgfjmkjhjfmbeaaGreatM21
namespace Go.Proofs.YtgfjmkjhjfmbeaaGreat
open Go.RowKit
open Go.ChangeMaps (setBlock)

section
variable {P : Program} {g0 nt : Nat}

def GL (g0 : Nat) (E : Env) : Prop := ∀ g, g < g0 → E.dom g ∧ E.ρ g = g
theorem GL.ext {E E1 : Env} (h : GL g0 E) (hx : Ext E E1) : GL g0 E1 := fun g hg => ⟨hx.n g (h g hg).1, by rw [hx.ρ g (h g hg).1]; exact (h g hg).2⟩

theorem HR.back {E E1 : Env} {G Gp : Gh} {w w1 : World} (h : HR P E G w) (hsub : ∀ k o, Gp k = some o → G k = some o) (hs : Stp E E1 [] w w1) (hd : ∀ b, E1.dom b ↔ E.dom b) (hn : HR P E1 Gp w1) : HR P E1 G w1 := by
  refine h.lift hsub hs hn (fun k hk => by cases hk) (fun _ _ _ => rfl) (fun k hk => ?_)
  have hk := hk.resolve_right (by simp)
  rw [h.dom k hk, hn.dom k (fun x => hk ((hd k).1 x))]

theorem evPre_ok {ops : Array Oper} {G Gp : Gh} {n : Nat} {rd : Option Nat} {F : Fence} {Q : Exit → Act → World → Prop} {r : List Nat} (hsub : ∀ k o, Gp k = some o → G k = some o) : ∀ (l : List Nat) (T T' : Tr Value), evPre P g0 nt ops Gp n l T = some T' → ∀ (E : Env) (a : Act) (w : World), F = rdF E rd → (∀ l, rd = some l → E.dom l) →
    TR E T nt a.tmps → HR P E G w → GL g0 E →
    (∀ E1 a1 w1, Ext E E1 → (∀ b, E1.dom b ↔ E.dom b) → Stp E E1 [] w w1 → TR E1 T' nt a1.tmps → HR P E1 G w1 → a1.defers = a.defers → wpOpsIn F 0 P ops Q r a1 w1) → wpOpsIn F 0 P ops Q (l ++ r) a w
  | [], T, T', h, E, a, w, hF, hrd, hT, hG, hgl, hk => by
    simp only [evPre, Option.some.injEq] at h
    subst h
    exact hk E a w (.refl E) (fun _ => Iff.rfl) (.refl E w) hT hG rfl
  | i :: l, T, T', h, E, a, w, hF, hrd, hT, hG, hgl, hk => by
    simp only [evPre] at h
    cases ho : ops[i]? with
    | none => simp [ho] at h
    | some o =>
      simp only [ho] at h
      cases hc : (o.guard.isNone && okOps g0 o && (isCall o).isNone && !(isDefer o)) with
      | false => simp [hc] at h
      | true =>
        simp only [hc, cond_true] at h
        simp only [Bool.and_eq_true, Bool.not_eq_true'] at hc
        obtain ⟨⟨⟨hg, hok⟩, hic⟩, hde⟩ := hc
        have hdef := isDefer_false hde
        have hopx : ∀ x ∈ o.op.operands, okX g0 x = true := fun x hx => List.all_eq_true.1 hok x (by simpa using hx)
        split at h
        · rename_i v ha
          cases hp : putT nt T o.dst v with
          | none => simp [hp] at h
          | some T2 =>
            simp only [hp] at h
            have hs := aop_ok (n := n) (hG.sub hsub) (o := o) (fun x hx => aev_rel hT hgl (hopx x hx))
            rw [ha] at hs
            obtain ⟨nx, w1, E1, hrun, hnx, hdom, hH, hst, _⟩ := hs (fun hk => by omega)
            have hd1 : ∀ b, E1.dom b ↔ E.dom b := fun b => (hdom b).trans ⟨fun h => h.resolve_right (by omega), .inl⟩
            have hx := hst.ext
            have hst : Stp E E1 [] w w1 := hst
            have hG1 : HR P E1 G w1 := hG.back hsub hst hd1 hH
            rw [List.cons_append]
            simp only [wpOpsIn, ho]
            rw [if_pos (by unfold Region.wanted; cases hgg : o.guard with | none => rfl | some x => rw [hgg] at hg; cases hg)]
            subst hF
            refine wpIn_of_run hdef hrun ?_
            have fin : ∀ v', VR E1 v v' → wpOpsIn (rdF E rd) 0 P ops Q (l ++ r) (a.put o.dst v') w1 := fun v' hv => by
              refine evPre_ok hsub l T2 T' h E1 (a.put o.dst v') w1 (rdF_ext hx hrd).symm (fun l hl => hx.n l (hrd l hl)) ((hT.ext hx).put hv hp) hG1 (hgl.ext hx) (fun E2 a2 w2 hx2 hd2 hs2 hT2 hG2 hde2 => ?_)
              exact hk E2 a2 w2 (hx.trans hx2) (fun b => (hd2 b).trans (hd1 b)) (hst.trans hs2) hT2 hG2 (hde2.trans (put_defers _ _ _))
            rcases hnx with ⟨v', rfl, hv⟩ | ⟨rfl, rfl⟩
            · exact fin v' hv
            · exact fin undef VR.undef
        · cases h

theorem evPre_slots {ops : Array Oper} {G : Gh} {n : Nat} : ∀ (l : List Nat) (T T' : Tr Value), evPre P g0 nt ops G n l T = some T' → ∀ t, t ∉ dsts ops → T'.get t = T.get t
  | [], T, T', h, t, ht => by simp only [evPre, Option.some.injEq] at h; rw [h]
  | i :: l, T, T', h, t, ht => by
    simp only [evPre] at h
    cases ho : ops[i]? with
    | none => simp [ho] at h
    | some o =>
      simp only [ho] at h
      cases hc : (o.guard.isNone && okOps g0 o && (isCall o).isNone && !(isDefer o)) with
      | false => simp [hc] at h
      | true =>
        simp only [hc, cond_true] at h
        split at h
        · rename_i v ha
          cases hp : putT nt T o.dst v with
          | none => simp [hp] at h
          | some T2 =>
            simp only [hp] at h
            rw [evPre_slots l T2 T' h t ht]
            cases hd : o.dst with
            | none => rw [hd] at hp; simp only [putT, Option.some.injEq] at hp; rw [hp]
            | some d =>
              rw [hd] at hp
              simp only [putT] at hp
              cases hb : Nat.blt d nt with
              | false => simp [hb] at hp
              | true =>
                simp [hb] at hp
                rw [← hp]
                refine Tr.get_set_ne _ _ fun e => ht ?_
                subst e
                exact List.mem_filterMap.2 ⟨o, Array.mem_toList_iff.2 (Array.mem_of_getElem? ho), hd⟩
        · cases h

theorem put_slots {T T' : Tr Value} {d : Tmp} {v : Value} (h : putT nt T (some d) v = some T') : ∀ t, t ≠ d → T'.get t = T.get t := fun t ht => by
  simp only [putT] at h
  cases hb : Nat.blt d nt with
  | false => simp [hb] at h
  | true => simp [hb] at h; rw [← h]; exact Tr.get_set_ne _ _ ht

theorem mem_dsts {ops : Array Oper} {o : Oper} {d : Tmp} {i : Nat} (ho : ops[i]? = some o) (hd : o.dst = some d) : d ∈ dsts ops := List.mem_filterMap.2 ⟨o, Array.mem_toList_iff.2 (Array.mem_of_getElem? ho), hd⟩

theorem mkeys_spec {L : MLoop} {K : MKeys} (h : mkeys L = some K) : ∃ o0 o1 o2, L.r0[0]? = some o0 ∧ isNext o0 = some (K.it0, K.t0) ∧ L.r1[0]? = some o1 ∧ isEntry o1 = some (K.it1, K.t1) ∧ L.r2[L.r2.size - 1]? = some o2 ∧ isUpd o2 = some (K.ut, K.um, K.uk, K.uv) := by
  unfold mkeys at h
  split at h
  · rename_i it0 t0 it1 t1 ut um uk uv h0 h1 h2
    cases h
    obtain ⟨o0, a0, b0⟩ := Option.bind_eq_some_iff.1 h0
    obtain ⟨o1, a1, b1⟩ := Option.bind_eq_some_iff.1 h1
    obtain ⟨o2, a2, b2⟩ := Option.bind_eq_some_iff.1 h2
    exact ⟨o0, o1, o2, a0, b0, a1, b1, a2, b2⟩
  · cases h

theorem mslots_spec {L : MLoop} {K : MKeys} {G : Gh} {n b : Nat} {T Te : Tr Value} {e : MapEntry} (h : mslots P g0 nt L K G n b T e = some Te) : okX g0 K.it0 = true ∧ aev T K.it0 = .pointer (some ⟨b, 0, none⟩) ∧
    ∃ Ta Tb Tc Td, putT nt T (some K.t0) (.tuple #[.bool true, e.key, e.val]) = some Ta ∧ evPre P g0 nt L.r0 G n (tailIx L.r0) Ta = some Tb ∧ okX g0 L.cx = true ∧ okX g0 K.it1 = true ∧ aev Tb L.cx = .bool true ∧ aev Tb K.it1 = .pointer (some ⟨b, 0, none⟩) ∧
      putT nt Tb (some K.t1) (.tuple #[e.key, e.val]) = some Tc ∧ evPre P g0 nt L.r1 G n (tailIx L.r1) Tc = some Td ∧ evPre P g0 nt L.r2 G n (List.range (L.r2.size - 1)) Td = some Te := by
  unfold mslots at h
  cases hc : (okX g0 K.it0 && eqV1 (aev T K.it0) (.pointer (some ⟨b, 0, none⟩))) with
  | false => simp [hc] at h
  | true =>
    simp only [hc, cond_true] at h
    obtain ⟨Ta, ha, h⟩ := Option.bind_eq_some_iff.1 h
    obtain ⟨Tb, hb, h⟩ := Option.bind_eq_some_iff.1 h
    cases hc2 : (okX g0 L.cx && okX g0 K.it1 && eqV1 (aev Tb L.cx) (.bool true) && eqV1 (aev Tb K.it1) (.pointer (some ⟨b, 0, none⟩))) with
    | false => simp [hc2] at h
    | true =>
      simp only [hc2, cond_true] at h
      obtain ⟨Tc, hcc, h⟩ := Option.bind_eq_some_iff.1 h
      obtain ⟨Td, hd, h⟩ := Option.bind_eq_some_iff.1 h
      simp only [Bool.and_eq_true] at hc hc2
      exact ⟨hc.1, eqV1_eq hc.2, Ta, Tb, Tc, Td, ha, hb, hc2.1.1.1, hc2.1.1.2, eqV1_eq hc2.1.2, eqV1_eq hc2.2, hcc, hd, h⟩
theorem mend_spec {L : MLoop} {K : MKeys} {G : Gh} {n b : Nat} {T Te : Tr Value} (h : mend P g0 nt L K G n b T = some Te) : okX g0 K.it0 = true ∧ aev T K.it0 = .pointer (some ⟨b, 0, none⟩) ∧
    ∃ Ta, putT nt T (some K.t0) (.tuple #[.bool false]) = some Ta ∧ evPre P g0 nt L.r0 G n (tailIx L.r0) Ta = some Te ∧ okX g0 L.cx = true ∧ aev Te L.cx = .bool false := by
  unfold mend at h
  cases hc : (okX g0 K.it0 && eqV1 (aev T K.it0) (.pointer (some ⟨b, 0, none⟩))) with
  | false => simp [hc] at h
  | true =>
    simp only [hc, cond_true] at h
    obtain ⟨Ta, ha, h⟩ := Option.bind_eq_some_iff.1 h
    obtain ⟨Tb, hb, h⟩ := Option.bind_eq_some_iff.1 h
    cases hc2 : (okX g0 L.cx && eqV1 (aev Tb L.cx) (.bool false)) with
    | false => simp [hc2] at h
    | true =>
      simp only [hc2, cond_true, Option.some.injEq] at h
      subst h
      simp only [Bool.and_eq_true] at hc hc2
      exact ⟨hc.1, eqV1_eq hc.2, Ta, ha, hb, hc2.1, eqV1_eq hc2.2⟩

/-- Which slots a round turns. -/
theorem mslots_slots {L : MLoop} {K : MKeys} (hK : mkeys L = some K) {G : Gh} {n b : Nat} {T Te : Tr Value} {e : MapEntry} (h : mslots P g0 nt L K G n b T e = some Te) : ∀ t, t ∉ mdsts L → Te.get t = T.get t := by
  obtain ⟨o0, o1, o2, h0, i0, h1, i1, h2, i2⟩ := mkeys_spec hK
  intro t ht
  simp only [mdsts, List.mem_append, not_or] at ht
  obtain ⟨⟨d0, d1⟩, d2⟩ := ht
  obtain ⟨_, _, Ta, Tb, Tc, Td, ha, hb, _, _, _, _, hcc, hd, h⟩ := mslots_spec h
  rw [evPre_slots _ _ _ h t d2, evPre_slots _ _ _ hd t d1, put_slots hcc t (fun e => d1 (e ▸ mem_dsts h1 (isEntry_spec i1).1)), evPre_slots _ _ _ hb t d0, put_slots ha t (fun e => d0 (e ▸ mem_dsts h0 (isNext_spec i0).1))]

theorem anonAll_in {T : Tr Value} : ∀ {l : List Tmp} {R : Tr Value} {t : Tmp}, t ∉ l → (anonAll T l R).get t = R.get t
  | [], _, _, _ => rfl
  | x :: l, R, t, h => by
    simp only [List.mem_cons, not_or] at h
    rw [anonAll, anonAll_in h.2, Tr.get_set_ne _ _ h.1]

/-- The slots behind a round, nothing being known of the entry. -/
theorem TR.cover {E : Env} {Te T1 : Tr Value} {a : Array Value} {D : List Tmp} (h : TR E Te nt a) (hD : (D.all fun t => eqV (anon ((Te.get t).getD undef)) ((T1.get t).getD undef)) = true) (ho : ∀ t, t ∉ D → T1.get t = Te.get t) : TR E T1 nt a := by
  refine ⟨h.1, fun t => ?_⟩
  by_cases ht : t ∈ D
  · rw [← eqV_eq (List.all_eq_true.1 hD t ht)]
    exact (h.2 t).anon
  · rw [ho t ht]; exact h.2 t
end
end Go.Proofs.YtgfjmkjhjfmbeaaGreat
