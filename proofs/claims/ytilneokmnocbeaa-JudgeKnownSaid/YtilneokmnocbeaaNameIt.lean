/- DERIVED. name.all: the iterator's contract. -/
import Derived.Test.YtilneokmnocbeaaProg
import Derived.Test.YtilneokmnocbeaaRange
namespace Go.Proofs.Ytilneokmnocbeaa
open Go.RowKit Go.Shelf
attribute [local go_sem] Oper.semAt_some

/-- What name.all hands to the round: each label, and, where it is no name, a last 'none'. -/
def nameSeq : Nat → Bs → List (Option Bs)
  | 0, _ => []
  | f + 1, n => if n = [0] then [] else if n.length = 0 ∨ bt n 0 = 0 ∨ 63 < bt n 0 ∨ n.length ≤ bt n 0 then [none]
    else some (n.tail.take (bt n 0)) :: nameSeq f (n.drop (1 + bt n 0))

def encLab : Option Bs → Array Value
  | some l => #[str l, .bool true]
  | none => #[str [], .bool false]

attribute [local go_sem] wrap_bt ByteArray.extract_mk

/-- What a round answers: b, and what holds behind it. -/
def YRes {α : Type} (J Jx : List α → World → Prop) (pre : List α) (x : α) (bn : Nat) (W : World) (b : Bool) (W' : World) : Prop :=
  (b = true ∧ J (pre ++ [x]) W' ∧ W'.heap[bn]? = W.heap[bn]?) ∨ (b = false ∧ Jx (pre ++ [x]) W')

set_option maxHeartbeats 1000000 in
theorem all1_in (n : Nat) (hn : 1 ≤ n) (l bn : Nat) (s : Bs) (_hs : s.length ≤ 1000000000) (J Jx : List (Option Bs) → World → Prop)
    (hJ : ∀ pre W v, J pre W → J pre (W.setCell ⟨bn, 0, none⟩ v)) (hJd : ∀ pre W k, J pre W → J pre (W.drewN k))
    (hY : ∀ pre x W, J pre W → pre.length < (nameSeq (s.length + 1) s).length → YieldAt Fence.wide (n - 1) Try.prog l (encLab x) W fun e W' => ∃ b, e = .returned (.bool b) ∧ YRes J Jx pre x bn W b W')
    (W : World) (hb : Boxed W bn 9 (str s)) (h0 : J [] W) :
    CallsIn Fence.wide n Try.prog 95 #[.func (.yield l) #[] #[], .pointer (some ⟨bn, 0, none⟩)] W fun e W' => (∃ v, e = .returned v) ∧
      ((∃ xs, xs = nameSeq (s.length + 1) s ∧ J xs W') ∨ (∃ pre, (∃ r, nameSeq (s.length + 1) s = pre ++ r ∧ pre ≠ []) ∧ Jx pre W')) := by
  refine callsIn_of_wp Try.func95 rfl trivial ?_ rfl
  simp only [Try.ntmps95, List.size_toArray, List.length_cons, List.length_nil, Nat.reduceAdd, Nat.reduceSub, Array.replicate_succ, Array.replicate_zero, List.push_toArray, List.append_toArray, List.nil_append, List.cons_append]
  gi_wp2
  gi_loopg [] (s.length + 1) (fun (g : Nat) (wr : World) => ∃ (m : Bs) (pre : List (Option Bs)), m.length < g ∧ m.length ≤ s.length ∧ Boxed wr bn 9 (str m) ∧ J pre wr ∧ Hid (nameSeq (s.length + 1) s = pre ++ nameSeq g m))
  case atStart => exact ⟨s, [], by omega, Nat.le_refl _, hb, h0, rfl⟩
  case round =>
    obtain ⟨m, pre, hg, hms, hb, hJp, HS⟩ := hrel
    obtain ⟨g, rfl⟩ : ∃ g', gk = g' + 1 := ⟨gk - 1, by omega⟩
    have hc := hb.cell
    have hf := hb.frozen
    have hbl := bt_lt m 0
    by_cases h1 : m = [0]
    · have h1' : (m == [0]) = true := by simpa using h1
      have hz : nameSeq (g + 1) m = [] := by rw [nameSeq, if_pos h1]
      have HZ := Lib.hid hz
      clear h1 hz
      gi_wp2
      refine bodyPost_ret (results_none rfl _ _ _) rfl ?_
      exact ⟨⟨_, rfl⟩, .inl ⟨pre, by rw [HS.out, HZ.out, List.append_nil], hJp⟩⟩
    · have h1' : (m == [0]) = false := by simpa using h1
      by_cases hbad : m.length = 0 ∨ bt m 0 = 0 ∨ 63 < bt m 0 ∨ m.length ≤ bt m 0
      · have hz : nameSeq (g + 1) m = [none] := by rw [nameSeq, if_neg h1, if_pos hbad]
        have HZ := Lib.hid hz
        clear hz
        have hcase : ((m.length : Int) == 0) = true ∨ (((m.length : Int) == 0) = false ∧ ((bt m 0 : Int) == 0) = true) ∨ (((m.length : Int) == 0) = false ∧ ((bt m 0 : Int) == 0) = false ∧ decide (63 < (bt m 0 : Int)) = true) ∨
            (((m.length : Int) == 0) = false ∧ ((bt m 0 : Int) == 0) = false ∧ decide (63 < (bt m 0 : Int)) = false ∧ decide (m.length ≤ bt m 0) = true) := by
          simp only [beq_iff_eq, beq_eq_false_iff_ne, decide_eq_true_eq, decide_eq_false_iff_not]; omega
        clear hbad h1
        rcases hcase with h2' | ⟨h2', h3'⟩ | ⟨h2', h3', h4'⟩ | ⟨h2', h3', h4', h5'⟩
        all_goals try have hix := fun (w : World) => idx_mk (w := w) 9 m .i64 0 Try.underlying9 (by omega) (by rw [beq_eq_false_iff_ne] at h2'; omega)
        all_goals
          gi_wp2
          refine wpIn_wide.2 ?_
          go_quiet (fail)
          gi_wp2
          obtain ⟨fn, tmps, assign, body, hy, hR⟩ := hY pre none (wr.drewN nq) (hJd _ _ _ hJp) (by rw [HS.out, HZ.out]; simp)
          dsimp only [encLab] at hy
          rw [hy]
          gi_wp2
          refine hR.mono ?_
          rintro e W3 ⟨b, rfl, hr⟩
          gi_wp2
          refine bodyPost_ret (results_none rfl _ _ _) rfl ?_
          rcases hr with ⟨_, hJ3, _⟩ | ⟨_, hJx3⟩
          · exact ⟨⟨_, rfl⟩, .inl ⟨pre ++ [none], by rw [HS.out, HZ.out], hJ3⟩⟩
          · exact ⟨⟨_, rfl⟩, .inr ⟨pre ++ [none], ⟨[], by rw [HS.out, HZ.out, List.append_nil], by simp⟩, hJx3⟩⟩
      · have hz : nameSeq (g + 1) m = some (m.tail.take (bt m 0)) :: nameSeq g (m.drop (1 + bt m 0)) := by rw [nameSeq, if_neg h1, if_neg hbad]
        have HZ := Lib.hid hz
        clear hz
        have h2' : ((m.length : Int) == 0) = false := by rw [beq_eq_false_iff_ne]; omega
        have hix := fun (w : World) => idx_mk (w := w) 9 m .i64 0 Try.underlying9 (by omega) (by omega)
        have h3' : ((bt m 0 : Int) == 0) = false := by rw [beq_eq_false_iff_ne]; omega
        have h4' : decide (63 < (bt m 0 : Int)) = false := by simp; omega
        have h5' : decide (m.length ≤ bt m 0) = false := by simp; omega
        have hlb : bt m 0 < m.length := by omega
        have hlb63 : bt m 0 ≤ 63 := by omega
        clear hbad h1
        gi_wp2
        refine wpIn_wide.2 ?_
        go_quiet (fail)
        gi_wp2
        obtain ⟨fn, tmps, assign, body, hy, hR⟩ := hY pre (some (m.tail.take (bt m 0))) (wr.drewN (nq + 1)) (hJd _ _ _ hJp) (by rw [HS.out, HZ.out]; simp)
        dsimp only [encLab] at hy
        have e1 : IntKind.i64.wrap (1 + (bt m 0 : Int)) = 1 + (bt m 0 : Int) := IntWalk.i64_in _ (by omega)
        have hsl : ∀ w : World, (Instr.slice 9 (str m) (some (.int .i64 1)) (some (.int .i64 (1 + (bt m 0 : Int)))) none).run Try.prog w = .ok (str (m.tail.take (bt m 0))) w := fun w => by
          rw [slice_mk (w := w) 9 m .i64 .i64 1 (1 + (bt m 0 : Int)) Try.underlying9 (by omega) (by omega) (by omega)]
          have : (1 + (bt m 0 : Int)).toNat - (1 : Int).toNat = bt m 0 := by omega
          rw [this]; simp
        have e0 : IntKind.i64.wrap (bt m 0 : Int) = (bt m 0 : Int) := IntWalk.i64_in _ (by omega)
        have e0' : wrap64 (bt m 0 : Int) = (bt m 0 : Int) := IntWalk.wrap64_in _ (by omega)
        have e1' : wrap64 (1 + (bt m 0 : Int)) = 1 + (bt m 0 : Int) := IntWalk.wrap64_in _ (by omega)
        gi_region_with (refine hR.mono ?_; rintro e W3 ⟨b, rfl, hr⟩)
        all_goals
          rcases hr with ⟨rfl, hJ3, hbx⟩ | ⟨rfl, hJx3⟩
          · have hb3 : Boxed W3 bn 9 (str m) := hbx.trans hb
            have hc3 := hb3.cell
            have hf3 := hb3.frozen
            have hsf : ∀ w : World, (Instr.slice 9 (str m) (some (.int .i64 (1 + (bt m 0 : Int)))) none none).run Try.prog w = .ok (str (m.drop (1 + bt m 0))) w := fun w => by
              rw [slice_from_mk (w := w) 9 m .i64 (1 + (bt m 0 : Int)) Try.underlying9 (by omega) (by omega)]
              have : (1 + (bt m 0 : Int)).toNat = 1 + bt m 0 := by omega
              rw [this]
            gi_wp2
            refine wpIn_wide.2 ?_
            go_region
            all_goals
              gi_wp2
              gi_roundg g
              case rel =>
                refine ⟨m.drop (1 + bt m 0), pre ++ [some (m.tail.take (bt m 0))], by simp only [List.length_drop]; omega, by simp only [List.length_drop]; omega, ?_, ?_, ?_⟩
                · exact hb3.set _
                · exact hJd _ _ 1 (hJ _ _ _ hJ3)
                · unfold Hid; rw [HS.out, HZ.out, List.append_assoc]; rfl
              case measure => omega
          · gi_wp2
            refine bodyPost_ret (results_none rfl _ _ _) rfl ?_
            exact ⟨⟨_, rfl⟩, .inr ⟨pre ++ [some (m.tail.take (bt m 0))], ⟨nameSeq g (m.drop (1 + bt m 0)), by rw [HS.out, HZ.out, List.append_assoc]; rfl, by simp⟩, hJx3⟩⟩

theorem nameSeq_length : ∀ (f : Nat) (n : Bs), (nameSeq f n).length ≤ f
  | 0, _ => by simp [nameSeq]
  | f + 1, n => by
    rw [nameSeq]
    split
    · simp
    · split
      · simp
      · simp only [List.length_cons]; have := nameSeq_length f (n.drop (1 + bt n 0)); omega

theorem all_seq (n : Nat) (hn : 1 ≤ n) (bn : Nat) (s : Bs) (hs : s.length ≤ 1000000000) (w : World) (hb : Boxed w bn 9 (str s)) :
    SeqStopsX Fence.wide n Try.prog 95 #[.pointer (some ⟨bn, 0, none⟩)] encLab (· = bn) (fun W W' => W'.heap[bn]? = W.heap[bn]?) (· = nameSeq (s.length + 1) s)
      (fun pre => ∃ r, nameSeq (s.length + 1) s = pre ++ r ∧ pre ≠ []) (nameSeq (s.length + 1) s).length w := by
  intro l J Jx W hW hJ hJx hY h0
  have hbW : Boxed W bn 9 (str s) := (hW.block bn hb.lt).trans hb
  refine all1_in n hn l bn s hs J Jx (fun pre W v h => hJ pre W _ (some bn) h (grownBy_setCell' W bn v) (fun r e => .inr (by cases e; rfl)))
    (fun pre W k h => hJ pre W _ none h ⟨rfl, rfl, rfl, Nat.le_refl _, fun _ _ _ => rfl⟩ (fun r e => by cases e)) ?_ W hbW h0
  intro pre x W1 hJ1 hlen
  obtain ⟨fn, tmps, assign, body, hy, hR⟩ := hY pre x W1 hJ1 hlen
  refine ⟨fn, tmps, assign, body, hy, hR.mono ?_⟩
  rintro e W' (⟨rfl, h1, h2⟩ | ⟨rfl, h1⟩)
  · exact ⟨true, rfl, .inl ⟨rfl, h1, h2⟩⟩
  · exact ⟨false, rfl, .inr ⟨rfl, h1⟩⟩

end Go.Proofs.Ytilneokmnocbeaa
