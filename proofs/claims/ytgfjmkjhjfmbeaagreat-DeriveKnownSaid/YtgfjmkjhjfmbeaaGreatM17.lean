/- DERIVED. The machine M, seventeenth part: regions whose order is open: the walk in whatever order. -/
import Derived.Test.YtgfjmkjhjfmbeaaGreatM16
namespace Go.Proofs.YtgfjmkjhjfmbeaaGreat
open Go.RowKit

theorem regOk_spec {ops : Array Oper} {pre : List Nat} (h : regOk ops pre = true) {i j : Nat} (hne : i ≠ j) (hf : freeOf pre i j = true) {x y : Oper} (hx : ops[i]? = some x) (hy : ops[j]? = some y) :
    (∀ d, y.dst = some d → d ∉ x.looksAt ops) ∧ (∀ d, x.dst = some d → y.dst ≠ some d) := by
  have hi : i < ops.size := (Array.getElem?_eq_some_iff.1 hx).1
  have hj : j < ops.size := (Array.getElem?_eq_some_iff.1 hy).1
  have key : ∀ {p q : Nat} {u v : Oper}, q < p → freeOf pre p q = true → ops[p]? = some u → ops[q]? = some v → u.apart ops v = true := by
    intro p q u v hqp hpq hu hv
    have hp : p < ops.size := (Array.getElem?_eq_some_iff.1 hu).1
    have h1 := List.all_eq_true.1 h p ((mem_seqL _ _ _).2 ⟨Nat.zero_le _, by omega⟩)
    have h2 := List.all_eq_true.1 h1 q ((mem_seqL _ _ _).2 ⟨Nat.zero_le _, by omega⟩)
    rw [hpq, hu, hv] at h2
    simpa using h2
  rcases Nat.lt_or_gt_of_ne hne with hlt | hgt
  · obtain ⟨a, b, c⟩ := Oper.apart_spec (key hlt (by rw [freeOf_symm]; exact hf) hy hx)
    exact ⟨a, fun d hd hd' => b d hd' hd⟩
  · obtain ⟨a, b, c⟩ := Oper.apart_spec (key hgt hf hx hy)
    exact ⟨c, b⟩

def RecOK (P : Program) (g0 : Nat) (rd : Option Nat) (nt : Nat) (ops : Array Oper) (f0 : Nat → Value) (G0 : Gh) (lw : Prop) : Rec → List Rec → Prop := fun r rs =>
  ∃ (o : Oper) (Gr : Gh), ops[r.i]? = some o ∧ (∀ k ob, Gr k = some ob → GD (fun _ => True) G0 rs k = some ob) ∧ (∀ k, Gr k ≠ none → rdKey r k) ∧
    ∀ (E : Env) (a : Act) (w : World) (K : Act → World → Prop) (Q : Exit → Act → World → Prop), lw → a.tmps.size = nt → (∀ t ∈ o.looksAt ops, VR E (TD ops (fun _ => True) f0 rs t) (a.tmps.getD t undef)) → (∀ g, g < g0 → E.dom g ∧ E.ρ g = g) → HR P E Gr w → Free E r.lo r.hi →
      (∀ E1 v' w1 Gn, VR E1 r.v v' → Ext E E1 → Took E E1 r.lo r.hi → HR P E1 Gn w1 → (∀ k, inK r k = true → Gn k = r.Hout.get k) → Stp E E1 r.W w w1 → (∀ k ∈ r.W, E.dom k → Gr k ≠ none) → K (a.put o.dst v') w1) → wpOpIn (rdF E rd) 0 P ops Q r.i K a w

def cnt (L : List Rec) (listed : Array Bool) : Nat := L.countP fun r => !(listed.getD r.i false)

theorem set_getD (listed : Array Bool) (i j : Nat) (hi : i < listed.size) : (listed.setIfInBounds i true).getD j false = true ↔ listed.getD j false = true ∨ j = i := by
  rw [Array.getD_eq_getD_getElem?, Array.getD_eq_getD_getElem?]
  by_cases h : j = i
  · subst h; simp [hi]
  · simp [h, Ne.symm h]

theorem cnt_set {A : List Rec} {r : Rec} {B : List Rec} {listed : Array Bool} (hi : r.i < listed.size) (hr : listed.getD r.i false = false) : cnt (A ++ r :: B) (listed.setIfInBounds r.i true) < cnt (A ++ r :: B) listed := by
  have mono : ∀ M : List Rec, cnt M (listed.setIfInBounds r.i true) ≤ cnt M listed := fun M => by
    unfold cnt
    refine List.countP_mono_left fun x hx h => ?_
    simp only [Bool.not_eq_true'] at h ⊢
    cases hg : listed.getD x.i false with
    | false => rfl
    | true => rw [(set_getD listed r.i x.i hi).2 (.inl hg)] at h; cases h
  have h1 := mono A
  have h2 := mono B
  have hr' := (set_getD listed r.i r.i hi).2 (.inr rfl)
  have e1 : cnt (A ++ r :: B) listed = cnt A listed + (cnt B listed + 1) := by
    unfold cnt; rw [List.countP_append, List.countP_cons_of_pos (by rw [hr]; rfl)]
  have e2 : cnt (A ++ r :: B) (listed.setIfInBounds r.i true) = cnt A (listed.setIfInBounds r.i true) + cnt B (listed.setIfInBounds r.i true) := by
    unfold cnt; rw [List.countP_append, List.countP_cons_of_neg (by rw [hr']; simp)]
  rw [e1, e2]; omega

section
variable {P : Program} {g0 : Nat} {rd : Option Nat} {nt n0 : Nat} {ops : Array Oper} {f0 : Nat → Value} {G0 : Gh} {lw : Prop}

theorem exists_ready {L : List Rec} (h : Good ops (preAll ops.toList []) n0 nt (RecOK P g0 rd nt ops f0 G0 lw) L) {listed : Array Bool} (hs : listed.size = ops.size) (hex : ∃ r ∈ L, ¬ listed.getD r.i false = true) : Region.ready .any ops listed ≠ [] := by
  have key : ∀ M : List Rec, Good ops (preAll ops.toList []) n0 nt (RecOK P g0 rd nt ops f0 G0 lw) M → (∃ r ∈ M, ¬ listed.getD r.i false = true) → ∃ r ∈ M, (∃ o, ops[r.i]? = some o) ∧ ¬ listed.getD r.i false = true ∧ ∀ k, ahead (preAll ops.toList []) r.i k → listed.getD k false = true := by
    intro M
    induction M with
    | nil => intro _ ⟨r, hr, _⟩; cases hr
    | cons r rs ih =>
      intro hg hex
      by_cases hrs : ∃ x ∈ rs, ¬ listed.getD x.i false = true
      · obtain ⟨x, h1, h2⟩ := ih hg.2.2.2.2.2.2.2.2 hrs
        exact ⟨x, by simp [h1], h2⟩
      · obtain ⟨o, Gr, ho, _⟩ := hg.1
        refine ⟨r, by simp, ⟨o, ho⟩, ?_, fun k hk => ?_⟩
        · obtain ⟨x, hx, hxn⟩ := hex
          rcases List.mem_cons.1 hx with rfl | hx
          · exact hxn
          · exact absurd ⟨x, hx, hxn⟩ hrs
        · obtain ⟨x, hx, rfl⟩ := hg.2.2.2.1 k hk
          cases hq : listed.getD x.i false with
          | true => rfl
          | false => exact absurd ⟨x, hx, by rw [hq]; simp⟩ hrs
  obtain ⟨r, hr, ⟨o, ho⟩, hn, hk⟩ := key L h hex
  intro hnil
  have : r.i ∈ Region.ready .any ops listed := mem_ready.2 ⟨by
      have hlt : r.i < listed.size := by rw [hs]; exact (Array.getElem?_eq_some_iff.1 ho).1
      rw [Array.getD_eq_getD_getElem?, Array.getElem?_eq_getElem hlt] at hn ⊢
      simpa using hn, o, ho, fun e he hb => hk e.on ((ahead_iff ho e.on).2 ⟨e, he, hb, .inl rfl⟩)⟩
  rw [hnil] at this; cases this

theorem draw_walk {L : List Rec} (hg : Good ops (preAll ops.toList []) n0 nt (RecOK P g0 rd nt ops f0 G0 lw) L) (hall : ∀ i, i < ops.size → ∃ r ∈ L, r.i = i) (hreg : regOk ops (preAll ops.toList []) = true) (hlw : lw)
    {Es : Env} {ws : World} {nE : Nat} (hfree : Free Es n0 nE) (hbd : ∀ r ∈ L, r.hi ≤ nE) (hgl : ∀ g, g < g0 → Es.dom g ∧ Es.ρ g = g) (hrd : ∀ l, rd = some l → Es.dom l) {a0 : Act} {allW : List Nat} (hW : ∀ r ∈ L, ∀ k ∈ r.W, k ∈ allW) {Q : Exit → Act → World → Prop}
    (hQ : ∀ E a w, Ext Es E → (∀ k, E.dom k ↔ Es.dom k ∨ ∃ r ∈ L, r.lo ≤ k ∧ k < r.hi) → Stp Es E allW ws w → a.tmps.size = nt → a.defers = a0.defers → (∀ t, VR E (TD ops (fun _ => True) f0 L t) (a.tmps.getD t undef)) → HR P E (GD (fun _ => True) G0 L) w → Q .normal a w) :
    ∀ (fuel : Nat) (listed : Array Bool) (a : Act) (w : World), listed.size = ops.size → cnt L listed ≤ fuel →
      (∀ j o, ops[j]? = some o → listed.getD j false = true → ∀ e ∈ o.after, Region.binds .any e = true → listed.getD e.on false = true) →
      (∃ E, Ext Es E ∧ (∀ k, E.dom k ↔ Es.dom k ∨ ∃ r ∈ L, listed.getD r.i false = true ∧ r.lo ≤ k ∧ k < r.hi) ∧ Stp Es E allW ws w ∧ a.tmps.size = nt ∧ a.defers = a0.defers ∧
        (∀ t, VR E (TD ops (fun i => listed.getD i false = true) f0 L t) (a.tmps.getD t undef)) ∧ HR P E (GD (fun i => listed.getD i false = true) G0 L) w) →
      wpAnyIn (rdF Es rd) 0 P .any ops Q fuel listed a w := by
  -- all has been done
  have fin : ∀ (listed : Array Bool) (a : Act) (w : World), (∀ r ∈ L, listed.getD r.i false = true) →
      (∃ E, Ext Es E ∧ (∀ k, E.dom k ↔ Es.dom k ∨ ∃ r ∈ L, listed.getD r.i false = true ∧ r.lo ≤ k ∧ k < r.hi) ∧ Stp Es E allW ws w ∧ a.tmps.size = nt ∧ a.defers = a0.defers ∧
        (∀ t, VR E (TD ops (fun i => listed.getD i false = true) f0 L t) (a.tmps.getD t undef)) ∧ HR P E (GD (fun i => listed.getD i false = true) G0 L) w) → Q .normal a w := by
    rintro listed a w hdone ⟨E, h1, h2, h3, h4, h5, h6, h7⟩
    refine hQ E a w h1 (fun k => ?_) h3 h4 h5 (fun t => ?_) ?_
    · rw [h2 k]; constructor
      · rintro (h | ⟨r, hr, _, h⟩)
        · exact .inl h
        · exact .inr ⟨r, hr, h⟩
      · rintro (h | ⟨r, hr, h⟩)
        · exact .inl h
        · exact .inr ⟨r, hr, hdone r hr, h⟩
    · rw [TD_agree (D' := fun i => listed.getD i false = true) (fun r hr _ => ⟨fun _ => hdone r hr, fun _ => trivial⟩)]; exact h6 t
    · have : GD (fun _ => True) G0 L = GD (fun i => listed.getD i false = true) G0 L := funext fun k => GD_agree (fun r hr _ => ⟨fun _ => hdone r hr, fun _ => trivial⟩)
      rw [this]; exact h7
  have nil_done : ∀ (listed : Array Bool), listed.size = ops.size → Region.ready .any ops listed = [] → ∀ r ∈ L, listed.getD r.i false = true := by
    intro listed hs hnil r hr
    cases hq : listed.getD r.i false with
    | true => rfl
    | false => exact absurd hnil (exists_ready hg hs ⟨r, hr, by rw [hq]; simp⟩)
  intro fuel
  induction fuel with
  | zero =>
    intro listed a w hs hc hcl hinv
    have hdone : ∀ r ∈ L, listed.getD r.i false = true := by
      intro r hr
      have h0 : cnt L listed = 0 := by omega
      unfold cnt at h0
      rw [List.countP_eq_zero] at h0
      have := h0 r hr
      simpa using this
    refine ⟨?_, fin listed a w hdone hinv⟩
    cases hr : Region.ready .any ops listed with
    | nil => rfl
    | cons i l =>
      have hm : i ∈ Region.ready .any ops listed := by rw [hr]; simp
      obtain ⟨h1, o, ho, _⟩ := mem_ready.1 hm
      have hlt : i < ops.size := (Array.getElem?_eq_some_iff.1 ho).1
      obtain ⟨r, hrL, rfl⟩ := hall i hlt
      have h2 := hdone r hrL
      have hlt' : r.i < listed.size := by omega
      rw [Array.getD_eq_getD_getElem?, Array.getElem?_eq_getElem hlt'] at h1 h2
      simp at h1 h2; rw [h1] at h2; cases h2
  | succ fuel ih =>
    intro listed a w hs hc hcl hinv
    refine ⟨fun hnil => fin listed a w (nil_done listed hs hnil) hinv, fun i hi => ?_⟩
    obtain ⟨E, x1, x2, x3, x4, x5, x6, x7⟩ := hinv
    obtain ⟨hnot, o, ho, hed⟩ := mem_ready.1 hi
    have hlt : i < ops.size := (Array.getElem?_eq_some_iff.1 ho).1
    obtain ⟨r, hrL, rfl⟩ := hall i hlt
    have hltl : r.i < listed.size := by omega
    have hnot' : listed.getD r.i false = false := by
      rw [Array.getD_eq_getD_getElem?, Array.getElem?_eq_getElem hltl] at hnot ⊢; simpa using hnot
    obtain ⟨A, B, hL⟩ := List.append_of_mem hrL
    subst hL
    have hDr : ¬ listed.getD r.i false = true := by rw [hnot']; simp
    have hup : ∀ k, ahead (preAll ops.toList []) r.i k → listed.getD k false = true := ahead_closed (D := fun k => listed.getD k false = true) hcl r.i o ho hed
    have hdown : ∀ j k, listed.getD j false = true → ahead (preAll ops.toList []) j k → listed.getD k false = true := by
      intro j k hj hk
      have hjl : j < listed.size := by
        rcases Nat.lt_or_ge j listed.size with h | h
        · exact h
        · rw [Array.getD_eq_getD_getElem?, Array.getElem?_eq_none h] at hj; simp at hj
      have hoj : ops[j]? = some (ops[j]'(by omega)) := Array.getElem?_eq_getElem _
      exact ahead_closed (D := fun k => listed.getD k false = true) hcl j _ hoj (hcl j _ hoj hj) k hk
    have hap := hg.apart
    have hnB := hg.notB
    obtain ⟨o', Gr, ho', hsub, hkey, hrec⟩ := (hg.tail).1
    rw [ho] at ho'; cases ho'
    have hgr := (hg.tail).2.2.2.2.2
    have two : ∀ r' ∈ A ++ r :: B, r' = r ∨ r' ∈ A ++ B := fun r' h => by
      simp only [List.mem_append, List.mem_cons] at h ⊢
      rcases h with h | h | h
      · exact .inr (.inl h)
      · exact .inl h
      · exact .inr (.inr h)
    have hops : ∀ r' ∈ A ++ r :: B, ∃ y, ops[r'.i]? = some y := fun r' h => by
      obtain ⟨C, D, e⟩ := List.append_of_mem h
      rw [e] at hg
      obtain ⟨y, _, hy, _⟩ := (hg.tail).1
      exact ⟨y, hy⟩
    -- what the operation looks at is as M had it
    have agT : ∀ t ∈ o.looksAt ops, TD ops (fun _ => True) f0 B t = TD ops (fun i => listed.getD i false = true) f0 (A ++ r :: B) t := by
      intro t ht
      rw [TD_agree (D' := fun i => ∃ y ∈ B, y.i = i) (rs := B) (fun r' hr' _ => ⟨fun _ => ⟨r', hr', rfl⟩, fun _ => trivial⟩)]
      have e1 : TD ops (fun i => ∃ y ∈ B, y.i = i) f0 ((A ++ [r]) ++ B) t = TD ops (fun i => ∃ y ∈ B, y.i = i) f0 B t := TD_tail (fun x hx => by
        simp only [List.mem_append, List.mem_singleton] at hx
        rcases hx with hx | rfl
        · exact hnB.1 x hx
        · exact hnB.2)
      rw [← e1, List.append_assoc, List.singleton_append]
      refine TD_agree (fun r' hr' hd => ?_)
      rcases two r' hr' with rfl | hr2
      · exact ⟨fun h => absurd h hnB.2, fun h => absurd h hDr⟩
      · by_cases hfr : freeOf (preAll ops.toList []) r.i r'.i = true
        · obtain ⟨y, hy⟩ := hops r' hr'
          obtain ⟨hne, _, _⟩ := hap r' hr2
          have := (regOk_spec hreg hne.symm hfr ho hy).1 t (by simpa [dstOf, hy] using hd)
          exact absurd ht this
        · exact hg.both hDr hup hdown hr2 hfr
    have agG : ∀ k, rdKey r k → GD (fun _ => True) G0 B k = GD (fun i => listed.getD i false = true) G0 (A ++ r :: B) k := by
      intro k hk
      rw [GD_agree (D' := fun i => ∃ y ∈ B, y.i = i) (rs := B) (fun r' hr' _ => ⟨fun _ => ⟨r', hr', rfl⟩, fun _ => trivial⟩)]
      have e1 : GD (fun i => ∃ y ∈ B, y.i = i) G0 ((A ++ [r]) ++ B) k = GD (fun i => ∃ y ∈ B, y.i = i) G0 B k := GD_tail (fun x hx => by
        simp only [List.mem_append, List.mem_singleton] at hx
        rcases hx with hx | rfl
        · exact hnB.1 x hx
        · exact hnB.2)
      rw [← e1, List.append_assoc, List.singleton_append]
      refine GD_agree (fun r' hr' hd => ?_)
      rcases two r' hr' with rfl | hr2
      · exact ⟨fun h => absurd h hnB.2, fun h => absurd h hDr⟩
      · by_cases hfr : freeOf (preAll ops.toList []) r.i r'.i = true
        · exact absurd hk (apartR_spec ((hap r' hr2).2.1 hfr).2.1 hd)
        · exact hg.both hDr hup hdown hr2 hfr
    have hGr : ∀ k ob, Gr k = some ob → GD (fun i => listed.getD i false = true) G0 (A ++ r :: B) k = some ob := fun k ob h => by
      rw [← agG k (hkey k (by rw [h]; simp))]; exact hsub k ob h
    have hfrE : Free E r.lo r.hi := fun k h1 h2 hd => by
      rcases (x2 k).1 hd with h3 | ⟨r', hr', hD', h4, h5⟩
      · exact hfree k (by have := hgr.1; omega) (by have := hbd r hrL; omega) h3
      · rcases two r' hr' with rfl | hr2
        · exact hDr hD'
        · rcases (hap r' hr2).2.2 with h | h <;> omega
    have hrdE : rdF E rd = rdF Es rd := rdF_ext x1 hrd
    have := hrec E a w (wpAnyIn (rdF Es rd) 0 P .any ops Q fuel (listed.setIfInBounds r.i true)) Q hlw x4 (fun t ht => by rw [agT t ht]; exact x6 t) (fun g hg' => ⟨x1.n g (hgl g hg').1, by rw [x1.ρ g (hgl g hg').1]; exact (hgl g hg').2⟩) (x7.sub hGr) hfrE ?_
    · rw [hrdE] at this; exact this
    · intro E1 v' w1 Gn hv hx ht hH hout hst hWl
      have hD' : ∀ j, (listed.setIfInBounds r.i true).getD j false = true ↔ listed.getD j false = true ∨ j = r.i := fun j => set_getD listed r.i j hltl
      have hDn : ∀ r' ∈ A ++ B, ((listed.setIfInBounds r.i true).getD r'.i false = true ↔ listed.getD r'.i false = true) := fun r' hr' => by
        rw [hD']; exact ⟨fun h => h.resolve_right (hap r' hr').1, .inl⟩
      -- later ones that have been done do not clash
      have later : ∀ r' ∈ A, listed.getD r'.i false = true → freeOf (preAll ops.toList []) r.i r'.i = true := by
        intro r' hr' hD
        cases hfr : freeOf (preAll ops.toList []) r.i r'.i with
        | true => rfl
        | false =>
          exact absurd ((hg.both hDr hup hdown (by simp [hr'] : r' ∈ A ++ B) (by rw [hfr]; simp)).2 hD) (hnB.1 r' hr')
      refine ih _ _ _ (by simp [hs]) (by have := cnt_set (A := A) (B := B) hltl hnot'; omega) ?_ ⟨E1, x1.trans hx, fun k => ?_, (x3.trans hst).sub (fun y hy _ => ?_), ?_, ?_, fun t => ?_, ?_⟩
      · intro j oj hoj hj e he hb
        rw [hD'] at hj ⊢
        rcases hj with hj | rfl
        · exact .inl (hcl j oj hoj hj e he hb)
        · rw [ho] at hoj; cases hoj; exact .inl (hed e he hb)
      · rw [ht k, x2 k]; constructor
        · rintro ((h | ⟨r', hr', h1, h2⟩) | h)
          · exact .inl h
          · exact .inr ⟨r', hr', (hD' _).2 (.inl h1), h2⟩
          · exact .inr ⟨r, hrL, (hD' _).2 (.inr rfl), h⟩
        · rintro (h | ⟨r', hr', h1, h2⟩)
          · exact .inl (.inl h)
          · rcases two r' hr' with rfl | hr2
            · exact .inr h2
            · exact .inl (.inr ⟨r', hr', (hDn r' hr2).1 h1, h2⟩)
      · simp only [List.mem_append] at hy
        rcases hy with hy | hy
        · exact hW r hrL y hy
        · exact hy
      · cases o.dst <;> simp [Act.put, x4]
      · rw [put_defers]; exact x5
      · by_cases hdt : o.dst = some t
        · have hd : dstOf ops r.i = some t := by simp [dstOf, ho, hdt]
          have hltn : t < nt := hgr.2.2.1 t hd
          rw [TD_hit (D := fun i => (listed.setIfInBounds r.i true).getD i false = true) ((hD' _).2 (.inr rfl)) hd (fun r' hr' h1 h2 => ?_)]
          · simp only [Act.put, hdt]
            rw [Array.getD_eq_getD_getElem?, Array.getElem?_setIfInBounds_self_of_lt (by rw [x4]; exact hltn)]
            exact hv
          · have hm : r' ∈ A ++ B := by simp [hr']
            have hfr := later r' hr' ((hDn r' hm).1 h1)
            obtain ⟨y, hy⟩ := hops r' (by simp [hr'])
            exact (regOk_spec hreg (hap r' hm).1.symm hfr ho hy).2 t hdt (by simpa [dstOf, hy] using h2)
        · have e1 : TD ops (fun i => (listed.setIfInBounds r.i true).getD i false = true) f0 (A ++ r :: B) t = TD ops (fun i => listed.getD i false = true) f0 (A ++ r :: B) t := TD_agree (fun r' hr' hd => by
            rcases two r' hr' with rfl | hr2
            · exact absurd (by simpa [dstOf, ho] using hd) hdt
            · exact hDn r' hr2)
          rw [e1]
          have := (x6 t).ext hx
          rw [Array.getD_eq_getD_getElem?] at this ⊢
          cases hdst : o.dst with
          | none => exact this
          | some d =>
            simp only [Act.put]
            rwa [Array.getElem?_setIfInBounds_ne (fun e => hdt (by rw [hdst, e]))]
      · have hnk : ∀ k, inK r k ≠ true → GD (fun i => (listed.setIfInBounds r.i true).getD i false = true) G0 (A ++ r :: B) k = GD (fun i => listed.getD i false = true) G0 (A ++ r :: B) k := fun k hk => GD_agree (fun r' hr' hd => by
          rcases two r' hr' with rfl | hr2
          · exact absurd hd hk
          · exact hDn r' hr2)
        have hhit : ∀ k, inK r k = true → GD (fun i => (listed.setIfInBounds r.i true).getD i false = true) G0 (A ++ r :: B) k = Gn k := fun k hk => by
          rw [GD_hit (D := fun i => (listed.setIfInBounds r.i true).getD i false = true) ((hD' _).2 (.inr rfl)) hk (fun r' hr' h1 h2 => ?_), hout k hk]
          have hm : r' ∈ A ++ B := by simp [hr']
          have hfr := later r' hr' ((hDn r' hm).1 h1)
          exact ((hap r' hm).2.1 hfr).2.2 k hk h2
        refine x7.lift hGr hst hH hWl (fun k hd hkW => ?_) (fun k hk => ?_)
        · refine hnk k (fun h => ?_)
          rcases inK_iff.1 h with h | h
          · exact hkW h
          · exact hfrE k h.1 h.2 hd
        · by_cases hin : inK r k = true
          · exact hhit k hin
          · have hkW : k ∉ r.W := fun h => hin (inK_iff.2 (.inl h))
            have hd : ¬ E.dom k := hk.resolve_right hkW
            rw [hnk k hin, x7.dom k hd]
            refine (hH.dom k (fun h1 => ?_)).symm
            rcases (ht k).1 h1 with h2 | h2
            · exact hd h2
            · exact hin (inK_iff.2 (.inr h2))
end
end Go.Proofs.YtgfjmkjhjfmbeaaGreat
