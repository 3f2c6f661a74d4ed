import Derived.Test.YtblhnenhonfpnaaGroup
import Derived.Test.YtblhnenhonfpnaaSets2
namespace Go.Proofs.Ytblhnenhonfpnaa
open Go.RowKit
def awakeIn : List Rc := [⟨[1,97,0],1,1,5,[120]⟩, ⟨[1,98,0],1,1,7,[121]⟩, ⟨[1,65,0],1,1,3,[122]⟩, ⟨[1,97,0],1,1,9,[120]⟩]
def awakeOut : List St := [⟨[1,97,0],1,1,3,[[120],[122]]⟩, ⟨[1,98,0],1,1,7,[[121]]⟩]
theorem awake_pure : (gloop awakeIn).1 = awakeOut := by decide +kernel
theorem awake_least : leastOf awakeOut = 3 := by decide +kernel

theorem lawA (w : World) : Calls Try.prog 23 #[] w fun e w' => e = .returned (str [1, 97, 0]) ∧ w = w' := by
  go_enter Try.func23, Try.ntmps23
  go_wp2
  go_ret
  exact ⟨rfl, rfl⟩
theorem lawB (w : World) : Calls Try.prog 35 #[] w fun e w' => e = .returned (str [1, 98, 0]) ∧ w = w' := by
  go_enter Try.func35, Try.ntmps35
  go_wp2
  go_ret
  exact ⟨rfl, rfl⟩
theorem lawBig (w : World) : Calls Try.prog 24 #[] w fun e w' => e = .returned (str [1, 65, 0]) ∧ w = w' := by
  go_enter Try.func24, Try.ntmps24
  go_wp2
  go_ret
  exact ⟨rfl, rfl⟩
theorem lawRec (n d : Bs) (k t : Int) (w : World) : Calls Try.prog 26 #[str n, .int .i64 k, .int .i64 t, str d] w fun e w' => e = .returned (.agg #[str n, .int .i64 k, .int .i64 1, .int .i64 t, str d]) ∧ Below w.heap.size w w' := by
  go_enter Try.func26, Try.ntmps26
  go_wp2
  refine bodyPost_ret (v := .agg #[str n, .int .i64 k, .int .i64 1, .int .i64 t, str d]) (by simp [results, Try.results26, go_sem]) rfl ⟨rfl, ?_⟩
  exact (Below.refl _ w).alloc (Nat.le_refl _) _

def AwS (wg : World) (g : Nat) (v0 : Value) (w' : World) : Prop :=
  w'.cell? ⟨g, 0, none⟩ = some (str [1, 97, 0]) ∧ w'.cell? ⟨g, 3, none⟩ = some (.int .i64 3) ∧ w'.cell? ⟨g, 4, none⟩ = some v0 ∧ w'.cell? ⟨g, 8, none⟩ = some (.int .i64 7) ∧ Below wg.heap.size wg w'

theorem reads_new (w : World) (sz n : Nat) (t : TypeId) (xs : List Value) (hx : xs.length = n * sz) (hn : n ≤ maxLen) : Reads (w.alloc (.cells xs.toArray t)) sz (.slice (some ⟨w.heap.size, 0, none⟩) n n) n xs :=
  ⟨hx, .inr ⟨_, 0, n, rfl, Nat.le_refl _, hn, fun j u hj => by rw [Nat.zero_add]; exact (cell_new_at rfl _ _ j).trans (by simpa using hj)⟩⟩

theorem awake_reads (w : World) : ReadsRecs (w.alloc (.cells #[str [1, 97, 0], .int .i64 1, .int .i64 1, .int .i64 5, str [120], str [1, 98, 0], .int .i64 1, .int .i64 1, .int .i64 7, str [121],
    str [1, 65, 0], .int .i64 1, .int .i64 1, .int .i64 3, str [122], str [1, 97, 0], .int .i64 1, .int .i64 1, .int .i64 9, str [120]] 39)) (.slice (some ⟨w.heap.size, 0, none⟩) 4 4) awakeIn := by
  have h := reads_new w 5 4 39 [str [1, 97, 0], .int .i64 1, .int .i64 1, .int .i64 5, str [120], str [1, 98, 0], .int .i64 1, .int .i64 1, .int .i64 7, str [121],
    str [1, 65, 0], .int .i64 1, .int .i64 1, .int .i64 3, str [122], str [1, 97, 0], .int .i64 1, .int .i64 1, .int .i64 9, str [120]] rfl (by unfold maxLen; omega)
  refine ⟨awakeIn.map Rc.cells, rfl, h, ?_, fun i x cs h1 h2 => ?_⟩
  · simp [awakeIn, Rc.cells]
  · rw [List.getElem?_map, h1] at h2; cases h2; rfl

theorem awake_ok : ∀ r ∈ awakeIn, r.name.length ≤ 1000000000 ∧ (Lit.int .i64 r.type).wf = true ∧ (Lit.int .i64 r.cls).wf = true := by
  intro r hr
  simp only [awakeIn, List.mem_cons, List.not_mem_nil, or_false] at hr
  rcases hr with rfl | rfl | rfl | rfl <;> exact ⟨by simp, by rfl, by rfl⟩

theorem sameTwo {wg : World} {v0 : Value} (hd : ReadsTexts wg v0 [[120], [122]]) :
    Calls Try.prog 36 #[v0, .slice (some ⟨wg.heap.size, 0, none⟩) 2 2] (wg.alloc (.cells #[.string ⟨#[120]⟩, .string ⟨#[122]⟩] 9)).drew fun e w' => e = .returned (.bool true) ∧ Below wg.heap.size wg w' := by
  have hb : Below wg.heap.size wg (wg.alloc (.cells #[.string ⟨#[120]⟩, .string ⟨#[122]⟩] 9)).drew := ((Below.refl _ wg).alloc (Nat.le_refl _) _).drew
  have hn : ReadsTexts (wg.alloc (.cells #[.string ⟨#[120]⟩, .string ⟨#[122]⟩] 9)).drew (.slice (some ⟨wg.heap.size, 0, none⟩) 2 2) [[120], [122]] := by
    have h := reads_new wg 1 2 9 [str [120], str [122]] rfl (by unfold maxLen; omega)
    refine ⟨[[str [120]], [str [122]]], rfl, h, by simp, fun i x cs h1 h2 => ?_⟩
    match i, h1, h2 with
    | 0, h1, h2 => cases h1; cases h2; rfl
    | 1, h1, h2 => cases h1; cases h2; rfl
  refine (sameTexts _ _ _ _ _ (readsTexts_below hd hb) hn (by unfold maxLen; simp) (by unfold maxLen; simp)).mono ?_
  rintro e w' ⟨rfl, k, rfl⟩
  exact ⟨by simp, belowDrewN hb k⟩

theorem least3 {wg w1 : World} {v : Value} (hS : ReadsSets wg v awakeOut) (hb1 : Below wg.heap.size wg w1) :
    Calls Try.prog 16 #[v] w1 fun e w' => e = .returned (.int .i64 3) ∧ Below wg.heap.size wg w' := by
  refine (setsLeast _ _ _ (readsSets_below hS hb1) (by simp [awakeOut])).mono ?_
  rintro e w' ⟨rfl, hb⟩
  exact ⟨by rw [awake_least], belowN hb1 hb1.size hb⟩

set_option maxRecDepth 20000 in
set_option maxHeartbeats 1000000 in
theorem lawAwake (w : World) : Calls Try.prog 11 #[] w fun e w' => e = .returned (.bool true) ∧ Below w.heap.size w w' := by
  have hB : Below w.heap.size w w := Below.refl _ _
  go_enter Try.func11, Try.ntmps11
  go_wp2_with (first | (go_at_call 23; refine (lawA _).mono ?_; rintro e w' ⟨rfl, rfl⟩) | (go_at_call 35; refine (lawB _).mono ?_; rintro e w' ⟨rfl, rfl⟩) | (go_at_call 24; refine (lawBig _).mono ?_; rintro e w' ⟨rfl, rfl⟩) | (go_at_call 26; refine (lawRec _ _ _ _ _).mono ?_; rintro e wb ⟨rfl, hb⟩; replace hB := belowT hB hb; clear hb) | (go_at_call 12; refine halt ?_))
  refine unhalt ?_
  refine (setsGroup _ awakeIn _ (awake_reads _) (by simp [awakeIn]) awake_ok).mono ?_
  rintro e wg ⟨vr, vds, rfl, hown, hbg⟩
  rw [awake_pure] at hown
  obtain ⟨v0, v1, rfl⟩ : ∃ a b, vds = [a, b] := by
    have hlen := hown.len
    match vds, hlen with
    | [a, b], _ => exact ⟨a, b, rfl⟩
  obtain ⟨g, cap, rfl⟩ : ∃ g cap, vr = .slice (some ⟨g, 0, none⟩) 2 cap := by
    rcases hown.row.2 with ⟨h, h'⟩ | ⟨g, cap, cur, h, _⟩
    · cases h'
    · exact ⟨_, _, h⟩
  have c1 := hown.cells (i := 0) rfl rfl
  have c2 := hown.cells (i := 1) rfl rfl
  have z0 : wg.cell? ⟨g, 0, none⟩ = some (str [1, 97, 0]) := c1 0 _ rfl
  have z3 : wg.cell? ⟨g, 3, none⟩ = some (.int .i64 3) := c1 3 _ rfl
  have z4 : wg.cell? ⟨g, 4, none⟩ = some v0 := c1 4 _ rfl
  have z8 : wg.cell? ⟨g, 8, none⟩ = some (.int .i64 7) := c2 3 _ rfl
  have hS : ReadsSets wg _ awakeOut := hown.reads
  have hd : ReadsTexts wg v0 [[120], [122]] := rowTexts (hown.data 0 _ v0 rfl rfl)
  have hBg : Below w.heap.size w wg := belowN (hB.alloc hB.size _) (by have := hB.size; simp; omega) hbg
  clear hown c1 c2 hB hbg
  go_wp2
  go_region_held3 (fun w' => w'.cell? ⟨g, 0, none⟩ = some (str [1, 97, 0]) ∧ w'.cell? ⟨g, 3, none⟩ = some (.int .i64 3) ∧ w'.cell? ⟨g, 4, none⟩ = some v0 ∧ w'.cell? ⟨g, 8, none⟩ = some (.int .i64 7))
    (first | assumption | (exact ⟨z0, z3, z4, z8⟩) | (exact ⟨y0, y3, y4, y8⟩) | (exact ⟨x0, x3, x4, x8⟩) | (exact ⟨alloc_keep z0 _, alloc_keep z3 _, alloc_keep z4 _, alloc_keep z8 _⟩))
    (first | (go_at_call 23; refine (lawA _).mono ?_; rintro e w' ⟨rfl, rfl⟩) | (go_at_call 36; refine (sameTwo hd).mono ?_; rintro e w1 ⟨rfl, hb1⟩; refine cutIn (p := w1.cell? ⟨g, 0, none⟩ = some (str [1, 97, 0]) ∧ w1.cell? ⟨g, 3, none⟩ = some (.int .i64 3) ∧ w1.cell? ⟨g, 4, none⟩ = some v0 ∧ w1.cell? ⟨g, 8, none⟩ = some (.int .i64 7)) ⟨cell_later hb1 z0, cell_later hb1 z3, cell_later hb1 z4, cell_later hb1 z8⟩ (fun hz => ?_); obtain ⟨y0, y3, y4, y8⟩ := hz) | (go_at_call 16; refine (least3 hS hb1).mono ?_; rintro e w2 ⟨rfl, hb2⟩; refine cutIn (p := w2.cell? ⟨g, 0, none⟩ = some (str [1, 97, 0]) ∧ w2.cell? ⟨g, 3, none⟩ = some (.int .i64 3) ∧ w2.cell? ⟨g, 4, none⟩ = some v0 ∧ w2.cell? ⟨g, 8, none⟩ = some (.int .i64 7)) ⟨cell_later hb2 z0, cell_later hb2 z3, cell_later hb2 z4, cell_later hb2 z8⟩ (fun hz => ?_); obtain ⟨x0, x3, x4, x8⟩ := hz))
  all_goals
    go_wp2
    go_ret
    exact ⟨rfl, belowN hBg hBg.size hb2⟩

theorem lawBetter (a b : Int) (o : Bool) (w : World) : Calls Try.prog 4 #[.int .i64 a, .int .i64 b, .bool o] w fun e w' => e = .returned (.bool true) ∧ Below w.heap.size w w' := by
  obtain ⟨r, hr⟩ : ∃ r, r = (o || decide (a ≤ b)) := ⟨_, rfl⟩
  have h1 : ∀ w', Calls Try.prog 18 #[.int .i64 a, .int .i64 b, .bool o] w' fun e w'' => e = .returned (.bool r) ∧ w' = w'' := fun w' => hr ▸ setsBetter a b o w'
  have h2 : ∀ w', Calls Try.prog 19 #[.int .i64 a, .int .i64 b, .bool o] w' fun e w'' => e = .returned (.bool r) ∧ w' = w'' := fun w' => hr ▸ refBetter a b o w'
  clear hr
  cases r
  all_goals
    go_enter Try.func4, Try.ntmps4
    go_wp2_with (first | (go_at_call 18; refine (h1 _).mono ?_; rintro e w' ⟨rfl, rfl⟩) | (go_at_call 19; refine (h2 _).mono ?_; rintro e w' ⟨rfl, rfl⟩) | (go_at_call 11; refine (lawAwake _).mono ?_; rintro e w' ⟨rfl, hb⟩))
    go_ret
    exact ⟨rfl, hb⟩
end Go.Proofs.Ytblhnenhonfpnaa
