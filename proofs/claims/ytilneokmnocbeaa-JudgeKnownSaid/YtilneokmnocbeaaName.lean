/- DERIVED. name.Labels, Check. -/
import Derived.Test.YtilneokmnocbeaaNameIt
namespace Go.Proofs.Ytilneokmnocbeaa
open Go.RowKit Go.Shelf

theorem rt_texts : RowT Try.prog 37 9 1 16 := RowT.mk' (z := .string ⟨#[]⟩) Try.underlying37 (by kernel_rfl) rfl (by decide) (by decide)

/-- What name.Labels tells. -/
def labels (s : Bs) : List Bs × Int :=
  if none ∈ nameSeq (s.length + 1) s then ([], 4) else if 255 < s.length then ([], 3) else ((nameSeq (s.length + 1) s).filterMap id, 0)

theorem nameAll (s : Bs) (w : World) : Calls Try.prog 88 #[str s] w fun e w' =>
    e = .returned (.func (.func 95) #[] #[.pointer (some ⟨w.heap.size, 0, none⟩)]) ∧ w' = w.alloc (.cells #[str s] 9) := by
  go_enter Try.func88, Try.ntmps88
  go_wp2
  go_ret
  exact ⟨rfl, rfl⟩

theorem ownsRow_mono {w : World} {B B' : Nat} {e : TypeId} {sz : Nat} {v : Value} {n : Nat} {xs : List Value} (h : w.ownsRow B e sz v n xs) (hB : B' ≤ B) : w.ownsRow B' e sz v n xs := by
  refine ⟨h.1, ?_⟩
  rcases h.2 with h2 | ⟨g, cap, cur, hv, hg, r⟩
  · exact .inl h2
  · exact .inr ⟨g, cap, cur, hv, by omega, r⟩

theorem boxedX {W W' : World} {row : Option Nat} {B b bn : Nat} {t : TypeId} {v : Value} (h : Boxed W b t v) (hg : W.grownBy W' row)
    (hr : ∀ r, row = some r → (B ≤ r ∧ ∃ o : Obj, W.heap[r]? = some o ∧ o.isCells = false) ∨ r = bn) (hb : b ≠ bn) : Boxed W' b t v := by
  refine h.kept hg (fun e => ?_)
  rcases hr b e.symm with ⟨_, o, ho, hc⟩ | rfl
  · have h' : W.heap[b]? = _ := h
    rw [h'] at ho; cases ho; cases hc
  · exact hb rfl

theorem ownsRow_keptX {W W' : World} {row : Option Nat} {B bn base : Nat} {e : TypeId} {sz : Nat} {v : Value} {k : Nat} {xs : List Value} (h : W.ownsRow base e sz v k xs) (hg : W.grownBy W' row)
    (hr : ∀ r, row = some r → (B ≤ r ∧ ∃ o : Obj, W.heap[r]? = some o ∧ o.isCells = false) ∨ r = bn) (hb : bn < base) : W'.ownsRow base e sz v k xs := by
  refine h.kept hg ?_
  rcases h.2 with ⟨rfl, _⟩ | ⟨g, cap, cur, rfl, hbg, hgg, _⟩
  · exact .inl rfl
  · refine .inr (fun e => ?_)
    simp only [Value.ownBlock] at e
    rcases hr g e.symm with ⟨_, o, ho, hc⟩ | rfl
    · rw [hgg] at ho; cases ho; cases hc
    · omega

theorem belowX {W W' w : World} {row : Option Nat} {B bn N : Nat} (h : Below N w W) (hg : W.grownBy W' row) (hN : N ≤ W.heap.size)
    (hr : ∀ r, row = some r → (B ≤ r ∧ ∃ o : Obj, W.heap[r]? = some o ∧ o.isCells = false) ∨ r = bn) (hB : N ≤ B) (hb : N ≤ bn) : Below N w W' :=
  h.grown hg hN (fun k hk => by rcases hr k hk with ⟨h1, _⟩ | rfl <;> omega)

theorem boxed_putObj {W : World} {b D : Nat} {t : TypeId} {v : Value} (h : Boxed W b t v) (hne : b < D) (o : Obj) : Boxed (W.putObj D o) b t v := by
  refine Eq.trans ?_ h
  exact World.putObj_heap_other (by omega)

/-- What the loop of name.Labels keeps. -/
def LabI (w : World) (pre : List (Option Bs)) (W : World) : Prop :=
  none ∉ pre ∧ Boxed W w.heap.size 37 (.slice none 0 0) ∧ Boxed W (w.heap.size + 1) 48 (.int .i64 0) ∧
    (∃ v, Boxed W (w.heap.size + 1 + 1) 37 v ∧ W.ownsRow (w.heap.size + 4) 9 1 v (pre.filterMap id).length ((pre.filterMap id).map str) ∧ (pre.filterMap id = [] → v = .slice none 0 0)) ∧ Below w.heap.size w W ∧ w.heap.size + 4 ≤ W.heap.size
def LabX (w : World) (c : Code) (pre : List (Option Bs)) (W : World) : Prop :=
  c = .ret ∧ none ∈ pre ∧ Boxed W w.heap.size 37 (.slice none 0 0) ∧ Boxed W (w.heap.size + 1) 48 (.int .i64 4) ∧ Below w.heap.size w W ∧ w.heap.size + 4 ≤ W.heap.size
theorem LabI_own (w : World) {B : Nat} (hB : w.heap.size + 4 ≤ B) : OwnX B (· = w.heap.size + 3) (LabI w) := by
  rintro pre W W' row ⟨h0, h1, h2, ⟨v, h3, h4, hv0⟩, h5, h6⟩ hg hr
  exact ⟨h0, boxedX h1 hg hr (by omega), boxedX h2 hg hr (by omega), ⟨v, boxedX h3 hg hr (by omega), ownsRow_keptX h4 hg hr (by omega), hv0⟩, belowX h5 hg (by omega) hr (by omega) (by omega), Nat.le_trans h6 hg.size⟩
theorem LabX_own (w : World) {B : Nat} (hB : w.heap.size + 4 ≤ B) (c : Code) : OwnX B (· = w.heap.size + 3) (LabX w c) := by
  rintro pre W W' row ⟨h0, h1, h2, h3, h5, h6⟩ hg hr
  exact ⟨h0, h1, boxedX h2 hg hr (by omega), boxedX h3 hg hr (by omega), belowX h5 hg (by omega) hr (by omega) (by omega), Nat.le_trans h6 hg.size⟩

section
attribute [local go_sem] Oper.semAt_some

set_option maxRecDepth 100000 in
set_option maxHeartbeats 1000000 in
theorem labels_any (s : Bs) (w : World) (hs : s.length ≤ 1000000000) :
    Calls Try.prog 62 #[str s] w fun e w' => ∃ v, e = .returned (.tuple #[v, .int .i64 (labels s).2]) ∧
      Below w.heap.size w w' ∧ w'.ownsRow w.heap.size 9 1 v (labels s).1.length ((labels s).1.map str) ∧ ((labels s).1 = [] → v = .slice none 0 0) := by
  refine (callsIn_wide (n := 5)).1 ?_
  refine callsIn_of_wp_marks Try.func62 rfl trivial ?_ rfl
  simp only [Try.ntmps62, List.size_toArray, List.length_cons, List.length_nil, Nat.reduceAdd, Nat.reduceSub, Array.replicate_succ, Array.replicate_zero, List.push_toArray, List.append_toArray, List.nil_append, List.cons_append]
  gi_wp2_with (refine ⟨trivial, ?_⟩; gi_at_call 88; refine (callsIn_wide.2 (nameAll _ _)).mono ?_; rintro e w' ⟨rfl, rfl⟩)
  obtain ⟨W0, hW0⟩ : ∃ W0, W0 = (((w.alloc (Obj.cells #[Value.slice none 0 0] 37)).alloc (Obj.cells #[Value.int IntKind.i64 0] 48)).alloc (Obj.cells #[Value.slice none 0 0] 37)).alloc (Obj.cells #[str s] 9) := ⟨_, rfl⟩
  have b2 : Boxed W0 w.heap.size 37 (.slice none 0 0) := by rw [hW0]; exact (((Boxed.new _ _ _).alloc _).alloc _).alloc _
  have b3 : Boxed W0 (w.heap.size + 1) 48 (.int .i64 0) := by
    have := Boxed.new (w.alloc (Obj.cells #[Value.slice none 0 0] 37)) 48 (.int .i64 0); rw [World.size_alloc] at this
    rw [hW0]; exact (this.alloc _).alloc _
  have b4 : Boxed W0 (w.heap.size + 1 + 1) 37 (.slice none 0 0) := by
    have := Boxed.new ((w.alloc (Obj.cells #[Value.slice none 0 0] 37)).alloc (Obj.cells #[Value.int IntKind.i64 0] 48)) 37 (.slice none 0 0); simp only [World.size_alloc] at this
    rw [hW0]; exact this.alloc _
  have bN : Boxed W0 (w.heap.size + 3) 9 (str s) := by
    have := Boxed.new (((w.alloc (Obj.cells #[Value.slice none 0 0] 37)).alloc (Obj.cells #[Value.int IntKind.i64 0] 48)).alloc (Obj.cells #[Value.slice none 0 0] 37)) 9 (str s); simp only [World.size_alloc] at this
    rw [hW0]; exact this
  have hsz : W0.heap.size = w.heap.size + 4 := by rw [hW0]; simp
  have hB0 : Below w.heap.size w W0 := by rw [hW0]; exact ((((Below.refl _ w).alloc (Nat.le_refl _) _).alloc (by simp) _).alloc (by simp; omega) _).alloc (by simp; omega) _
  rw [← hW0]
  clear hW0
  refine rangeFuncX rfl (by omega) (gf := 95) (lb := #[.pointer (some ⟨w.heap.size + 3, 0, none⟩)]) rfl trivial (enters_of Try.func95 (by kernel_rfl) rfl)
    (all_seq (5 - 1) (by omega) (w.heap.size + 3) s hs W0 bN) (fun r e => by subst e; omega) (fun h1 h2 => h2.trans h1) (fun W l o o' hl h _ _ => World.putObj_heap_other (by omega)) (Below.refl _ _) (fun x => by cases x <;> rfl)
    (LabI w) (LabX w) (LabI_own w (by omega)) (LabX_own w (by omega)) ⟨by simp, b2, b3, ⟨_, b4, World.ownsRow_nil _ _ _ _, fun _ => rfl⟩, hB0, by omega⟩
    (fun x => { tmps := #[str s, undef, .pointer (some ⟨w.heap.size, 0, none⟩), .pointer (some ⟨w.heap.size + 1, 0, none⟩), .pointer (some ⟨w.heap.size + 1 + 1, 0, none⟩), str (x.getD []), .bool x.isSome, str s, .func (.func 95) #[] #[.pointer (some ⟨w.heap.size + 1 + 1 + 1, 0, none⟩)], str (x.getD []), .bool x.isSome, undef, undef, undef, undef, undef, undef, undef, undef, undef, undef], defers := [] }) ?assign ?body ?done ?stop
  case assign =>
    intro l x W K hK
    cases x
    all_goals
      dsimp only [encLab]
      gi_wp2
      exact hK
  case body =>
    rintro l pre x W ⟨h0, h1, h2, ⟨v, h3, h4, hv0⟩, h5, h6⟩ hlt
    have hlt' : pre.length < s.length + 1 := Nat.lt_of_lt_of_le hlt (nameSeq_length _ _)
    have hpl : (pre.filterMap id).length ≤ pre.length := List.length_filterMap_le _ _
    cases x with
    | none =>
      have c2 := h1.cell
      have f2 := h1.frozen
      have c3 := h2.cell
      have f3 := h2.frozen
      dsimp only [Option.getD_none, Option.isSome_none]
      gi_wp2
      refine ⟨((KeepsOthers.setCell _ _ _).trans (KeepsOthers.setCell _ _ _)).from _, rfl, by simp, ?_, ?_, ?_, ?_⟩
      · exact Boxed.other (h1.set _) (by omega) _
      · exact Boxed.set _ (Boxed.other h2 (by omega) _)
      · exact (h5.setCell (p := ⟨w.heap.size, 0, none⟩) (Nat.le_refl _) _).setCell (p := ⟨w.heap.size + 1, 0, none⟩) (by simp) _
      · simpa using h6
    | some x =>
      have c4 := h3.cell
      have f4 := h3.frozen
      dsimp only [Option.getD_some, Option.isSome_some]
      gi_wp2_with (gi_at_builtin; refine halt ?_)
      refine unhalt ?_
      refine wpListIn_append1 rt_texts _ _ rfl rfl h4 (Below.refl _ W) _ rfl (by simp) rfl rfl rfl (by unfold room; omega) h6 ?_
      intro g cap w1 hg1 ho1 hb1 hs1 hgr1 _
      have h3' := h3.kept hgr1 (fun e => by have := (h4.lt _ e.symm).1; omega)
      have c4' := h3'.cell
      have f4' := h3'.frozen
      clear c4 f4
      gi_wp2
      have hcells : ∀ j o, v.ownBlock = some j → W.heap[j]? = some o → o.isCells = true := by
        intro j o ej hj
        rcases h4.2 with ⟨rfl, _⟩ | ⟨g', cap', cur, rfl, _, hgg, _⟩
        · cases ej
        · simp only [Value.ownBlock, Option.some.injEq] at ej; subst ej; rw [hgg] at hj; cases hj; rfl
      have hrow : ∀ b, b < w.heap.size + 4 → some b ≠ v.ownBlock := fun b hb e => by have := (h4.lt _ e.symm).1; omega
      have hrow' : ∀ b, b < w.heap.size + 4 → b ≠ g := fun b hb e => by omega
      refine ⟨((KeepsOthers.of_grownBy hgr1 hcells).trans (KeepsOthers.setCell _ _ _)).from _, ?_, by simp [h0], ?_, ?_, ⟨_, h3'.set _, ?_, fun e => by simp at e⟩, ?_, ?_⟩
      · exact (Below.heap_setCell _ _ _ _ (by simp)).trans (hgr1.block _ (by omega) (hrow _ (by omega)))
      · exact (h1.kept hgr1 (hrow _ (by omega))).other (by omega) _
      · exact (h2.kept hgr1 (hrow _ (by omega))).other (by omega) _
      · refine World.ownsRow.kept (by simpa using ho1) (grownBy_setCell' w1 _ _) (.inr ?_)
        simp only [Value.ownBlock, ne_eq, Option.some.injEq]; omega
      · exact (h5.grown hgr1 (by omega) (fun k hk => by have := (h4.lt _ hk).1; omega)).setCell (p := ⟨w.heap.size + 1 + 1, 0, none⟩) (by simp; omega) _
      · simp; omega
  case done =>
    rintro D ys W hD rfl hI hK
    obtain ⟨h0, h1, h2, ⟨v, h3, h4, hv0⟩, h5, h6⟩ := hI
    have c2 := h1.cell
    have f2 := h1.frozen
    have c3 := h2.cell
    have f3 := h2.frozen
    obtain ⟨va, vk, vc, rfl⟩ : ∃ a k c, v = .slice a k c := by
      rcases h4.2 with ⟨rfl, _⟩ | ⟨g', cap', cur, rfl, _⟩ <;> exact ⟨_, _, _, rfl⟩
    have c4 := h3.cell
    by_cases hl : 255 < s.length
    · have hl' : decide ((255 : Int) < (s.length : Int)) = true := by simp; omega
      have hR : labels s = ([], 3) := by unfold labels; rw [if_neg h0, if_pos hl]
      have HR := Lib.hid hR
      clear hR
      gi_wp2
      refine ⟨by simp, .inl ⟨_, _, rfl, run_takeDeferred (((KeepsOthers.setCell _ _ _).trans (KeepsOthers.setCell _ _ _)).same D _ hK rfl), ?_⟩⟩
      have r2 := boxed_putObj (Boxed.other (h1.set (.slice none 0 0)) (B' := w.heap.size + 1) (by omega) (.int .i64 3)) (D := D) (by omega) (.deferred none)
      have r3 := boxed_putObj ((Boxed.other h2 (B' := w.heap.size) (by omega) (.slice none 0 0)).set (.int .i64 3)) (D := D) (by omega) (.deferred none)
      refine ⟨.tuple #[.slice none 0 0, .int .i64 3], by simp [results, Try.results62, go_sem, r2.cell, r3.cell], _, by rw [HR.out], ?_, ?_, ?_⟩
      · exact ((h5.setCell (p := ⟨w.heap.size, 0, none⟩) (Nat.le_refl _) _).setCell (p := ⟨w.heap.size + 1, 0, none⟩) (by simp) _).grown (grownBy_putObj' _ D _) (by simp; omega) (fun k e => by cases e; omega)
      · rw [HR.out]; exact World.ownsRow_nil _ _ _ _
      · exact fun _ => rfl
    · have hl' : decide ((255 : Int) < (s.length : Int)) = false := by simp; omega
      have hR : labels s = ((nameSeq (s.length + 1) s).filterMap id, 0) := by unfold labels; rw [if_neg h0, if_neg hl]
      have HR := Lib.hid hR
      clear hR
      gi_wp2
      refine ⟨by simp, .inl ⟨_, _, rfl, run_takeDeferred (((KeepsOthers.setCell _ _ _).trans (KeepsOthers.setCell _ _ _)).same D _ hK rfl), ?_⟩⟩
      have r2 := boxed_putObj (Boxed.other (h1.set (.slice va vk vc)) (B' := w.heap.size + 1) (by omega) (.int .i64 0)) (D := D) (by omega) (.deferred none)
      have r3 := boxed_putObj ((Boxed.other h2 (B' := w.heap.size) (by omega) (.slice va vk vc)).set (.int .i64 0)) (D := D) (by omega) (.deferred none)
      refine ⟨.tuple #[.slice va vk vc, .int .i64 0], by simp [results, Try.results62, go_sem, r2.cell, r3.cell], _, by rw [HR.out], ?_, ?_, ?_⟩
      · exact ((h5.setCell (p := ⟨w.heap.size, 0, none⟩) (Nat.le_refl _) _).setCell (p := ⟨w.heap.size + 1, 0, none⟩) (by simp) _).grown (grownBy_putObj' _ D _) (by simp; omega) (fun k e => by cases e; omega)
      · rw [HR.out]
        have hb : ∀ b, b < w.heap.size + 4 → Value.ownBlock (.slice va vk vc) ≠ some b := fun b hb e => by have := (h4.lt _ e).1; omega
        refine ownsRow_putObj (ownsRow_mono (World.ownsRow.kept (World.ownsRow.kept h4 (grownBy_setCell' _ _ _) (.inr (hb _ (by omega)))) (grownBy_setCell' _ _ _) (.inr (hb _ (by omega)))) (by omega)) _ (o := .deferred (some [])) ?_ rfl
        exact (((KeepsOthers.setCell _ _ _).trans (KeepsOthers.setCell _ _ _)).same D _ hK rfl)
      · rw [HR.out]; exact hv0
  case stop =>
    rintro D c pre W hD ⟨r, hr, hne⟩ ⟨rfl, hm, h2, h3, h5, h6⟩ hK
    have c2 := h2.cell
    have c3 := h3.cell
    have hR : labels s = ([], 4) := by unfold labels; rw [if_pos (by rw [hr]; simp [hm])]
    have HR := Lib.hid hR
    clear hR
    gi_wp2
    refine ⟨by simp, .inl ⟨_, _, rfl, run_takeDeferred hK, ?_⟩⟩
    have r2 := boxed_putObj h2 (D := D) (by omega) (.deferred none)
    have r3 := boxed_putObj h3 (D := D) (by omega) (.deferred none)
    refine ⟨.tuple #[.slice none 0 0, .int .i64 4], by simp [results, Try.results62, go_sem, r2.cell, r3.cell], _, by rw [HR.out], ?_, ?_, ?_⟩
    · exact h5.grown (grownBy_putObj' _ D _) (by omega) (fun k e => by cases e; omega)
    · rw [HR.out]; exact World.ownsRow_nil _ _ _ _
    · exact fun _ => rfl
end
end Go.Proofs.Ytilneokmnocbeaa
