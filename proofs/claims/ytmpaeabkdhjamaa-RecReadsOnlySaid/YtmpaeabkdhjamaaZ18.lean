/- DERIVED. Texts put together: H1, R9. -/
import Derived.Test.YtmpaeabkdhjamaaZ13
import Derived.Test.YtmpaeabkdhjamaaZ17
/- DERIVED. Names and data in lower form: the plain law. -/
namespace Go.Proofs.Ytmpaeabkdhjamaa
open Go Go.RowKit

/-- What a name is. -/
inductive Nm : Bs → Prop
  | root : Nm [0]
  | lab (c : UInt8) (x r : Bs) (h1 : 0 < c.toNat) (h2 : c.toNat ≤ 63) (hx : x.length = c.toNat) (hr : Nm r) : Nm (c :: (x ++ r))
theorem Nm.pos {l : Bs} (h : Nm l) : 0 < l.length := by cases h <;> simp
theorem nameSeq_nm : ∀ (f : Nat) (l : Bs), l.length < f → (none ∉ nameSeq f l ↔ Nm l)
  | f + 1, l, hf => by
    rw [nameSeq]
    by_cases h0 : l = [0]
    · rw [if_pos h0, h0]; exact ⟨fun _ => .root, fun _ => by simp⟩
    rw [if_neg h0]
    by_cases h1 : l.length = 0 ∨ bt l 0 = 0 ∨ 63 < bt l 0 ∨ l.length ≤ bt l 0
    · rw [if_pos h1]
      refine ⟨fun h => absurd (by simp) h, fun h => ?_⟩
      exfalso
      cases h with
      | root => exact h0 rfl
      | lab c x r g1 g2 g3 g4 =>
        have hb : bt (c :: (x ++ r)) 0 = c.toNat := rfl
        rw [hb] at h1
        simp only [List.length_cons, List.length_append] at h1
        omega
    · rw [if_neg h1]
      cases l with
      | nil => exact absurd (.inl rfl) h1
      | cons c tl =>
        have hb : bt (c :: tl) 0 = c.toNat := rfl
        rw [hb] at h1 ⊢
        have e1 : (c :: tl).drop (1 + c.toNat) = tl.drop c.toNat := by rw [Nat.add_comm]; rfl
        rw [e1]
        simp only [List.length_cons] at h1 hf
        have ih := nameSeq_nm f (tl.drop c.toNat) (by rw [List.length_drop]; omega)
        have e2 : (none ∉ some ((c :: tl).tail.take c.toNat) :: nameSeq f (tl.drop c.toNat)) ↔ none ∉ nameSeq f (tl.drop c.toNat) := by simp
        rw [e2, ih]
        constructor
        · intro h
          have := Nm.lab c (tl.take c.toNat) (tl.drop c.toNat) (by omega) (by omega) (by rw [List.length_take]; omega) h
          rwa [List.take_append_drop] at this
        · intro h
          generalize hq : c :: tl = q at h
          cases h with
          | root => exact absurd hq h0
          | lab c' x r g1 g2 g3 g4 =>
            simp only [List.cons.injEq] at hq
            obtain ⟨rfl, rfl⟩ := hq
            rw [← g3, List.drop_left]; exact g4
theorem labels_nm (l : Bs) : (labels l).2 = 0 ↔ Nm l ∧ l.length ≤ 255 := by
  have h := nameSeq_nm (l.length + 1) l (by omega)
  unfold labels
  by_cases h1 : none ∈ nameSeq (l.length + 1) l
  · rw [if_pos h1]
    exact ⟨fun e => (by cases e), fun e => absurd h1 (h.2 e.1)⟩
  · rw [if_neg h1]
    by_cases h2 : 255 < l.length
    · rw [if_pos h2]; exact ⟨fun e => (by cases e), fun e => by omega⟩
    · rw [if_neg h2]; exact ⟨fun _ => ⟨h.1 h1, by omega⟩, fun _ => rfl⟩

theorem lo_small {c : UInt8} (h : c.toNat ≤ 64) : lo c = c := by unfold lo; rw [if_neg (by omega)]
theorem lo_lo (c : UInt8) : lo (lo c) = lo c := by
  by_cases h : 65 ≤ c.toNat ∧ c.toNat ≤ 90
  · have e : lo c = c + 32 := by unfold lo; rw [if_pos h]
    have e2 : (c + 32).toNat = c.toNat + 32 := by rw [UInt8.toNat_add]; simp; omega
    rw [e]
    unfold lo
    rw [if_neg (by rw [e2]; omega)]
  · have e : lo c = c := by unfold lo; rw [if_neg h]
    rw [e, e]
theorem lower_lower (l : Bs) : lower (lower l) = lower l := by
  unfold lower
  rw [List.map_map]
  exact List.map_congr_left (fun c _ => lo_lo c)
theorem lower_append (a b : Bs) : lower (a ++ b) = lower a ++ lower b := by simp [lower]
theorem Nm.lower {l : Bs} (h : Nm l) : Nm (lower l) := by
  induction h with
  | root => exact .root
  | lab c x r h1 h2 hx hr ih =>
    have e : Go.Proofs.Ytmpaeabkdhjamaa.lower (c :: (x ++ r)) = c :: (Go.Proofs.Ytmpaeabkdhjamaa.lower x ++ Go.Proofs.Ytmpaeabkdhjamaa.lower r) := by
      rw [← lower_append]
      show lo c :: _ = _
      rw [lo_small (by omega)]; rfl
    rw [e]
    exact .lab c _ _ h1 h2 (by rw [lower_len, hx]) ih
theorem labels_lower {l : Bs} (h : (labels l).2 = 0) : (labels (lower l)).2 = 0 := by
  obtain ⟨h1, h2⟩ := (labels_nm l).1 h
  exact (labels_nm _).2 ⟨h1.lower, by rw [lower_len]; exact h2⟩
theorem zpos_nm {n : Bs} (h : Nm n) (r : Bs) : zpos (n ++ r) = some (n.length - 1) := by
  induction h with
  | root => show zpos (0 :: r) = _; rw [zpos_cons, if_pos (by decide)]; rfl
  | lab c x q h1 h2 hx hr ih =>
    have hp := hr.pos
    show zpos (c :: ((x ++ q) ++ r)) = _
    rw [zpos_cons, if_neg (by omega), List.append_assoc, ← hx, List.drop_left, ih]
    simp only [Option.map_some, List.length_cons, List.length_append, Option.some.injEq]; omega
theorem front_nm {n : Bs} (h : Nm n) (hl : n.length ≤ 255) (r : Bs) : front (n ++ r) = some n.length := by
  have hp := h.pos
  unfold front
  rw [zpos_nm h]
  have e : n.length - 1 + 1 = n.length := by omega
  simp only [e, List.take_left]
  rw [if_pos ((labels_nm n).2 ⟨h, hl⟩)]
theorem front_take {l : Bs} {k : Nat} (h : front l = some k) : Nm (l.take k) ∧ (l.take k).length = k ∧ k ≤ 255 ∧ (labels (l.take k)).2 = 0 := by
  have h1 := front_le h
  have h2 := front_len h
  unfold front at h
  split at h
  · rename_i j hj
    split at h
    · rename_i hl
      cases h
      exact ⟨((labels_nm _).1 hl).1, by rw [List.length_take]; omega, h2, hl⟩
    · cases h
  · cases h
theorem front_low {l : Bs} {k : Nat} (h : front l = some k) (r : Bs) : front (lower (l.take k) ++ r) = some k := by
  obtain ⟨h1, h2, h3, _⟩ := front_take h
  have := front_nm h1.lower (by rw [lower_len]; omega) r
  rw [this, lower_len, h2]
def lowQ (p : Bs × Bool) : Bs × Bool := (lowP p, p.2)
theorem cuts_low : ∀ (ps : List Pt) (l : Bs) (o : List (Bs × Bool)) (r : Bs), ps.all Pt.small = true → cuts ps l = some (o, r) → cuts ps (o.flatMap lowP ++ r) = some (o.map lowQ, r)
  | [], l, o, r, _, h => by simp only [cuts, Option.some.injEq, Prod.mk.injEq] at h; obtain ⟨rfl, rfl⟩ := h; rfl
  | p :: ps, l, o, r, ha, h => by
    simp only [List.all_cons, Bool.and_eq_true] at ha
    simp only [cuts] at h
    cases hc : p.cut l with
    | none => rw [hc] at h; cases h
    | some n =>
      rw [hc] at h
      simp only [] at h
      obtain ⟨⟨o', r'⟩, h1, h2⟩ := Option.map_eq_some_iff.1 h
      simp only [Prod.mk.injEq] at h2
      obtain ⟨rfl, rfl⟩ := h2
      have ih := cuts_low ps _ _ _ ha.2 h1
      have hle := cut_le hc
      have hlen : (lowP (l.take n, p.isName)).length = n := by rw [lowP_len, List.length_take]; omega
      have hcut : p.cut (lowP (l.take n, p.isName) ++ (o'.flatMap lowP ++ r')) = some n := by
        cases p with
        | nm => exact front_low hc _
        | rest => cases ha.1
        | sz k =>
          simp only [Pt.cut] at hc ⊢
          split at hc <;> cases hc
          rw [if_pos (by rw [List.length_append, hlen]; omega)]
      rw [List.flatMap_cons, List.append_assoc]
      simp only [cuts, hcut]
      rw [show ((lowP (l.take n, p.isName)) ++ (o'.flatMap lowP ++ r')).drop n = o'.flatMap lowP ++ r' from by rw [List.drop_append, hlen, Nat.sub_self, List.drop_of_length_le (by omega)]; rfl, ih]
      simp only [Option.map_some, List.map_cons, Option.some.injEq, Prod.mk.injEq, List.cons.injEq, and_true]
      unfold lowQ
      rw [show ((lowP (l.take n, p.isName)) ++ (o'.flatMap lowP ++ r')).take n = lowP (l.take n, p.isName) from by rw [List.take_append, hlen, Nat.sub_self, List.take_of_length_le (by omega)]; simp]
theorem lowP_lowQ (p : Bs × Bool) : lowP (lowQ p) = lowP p := by
  unfold lowQ lowP
  cases p.2 with
  | true => exact lower_lower _
  | false => rfl

/-- WHAT LOWER DOES. -/
theorem lowerD_spec (t : Int) (l : Bs) : (lowerD t l).length = l.length ∧ checkD t (lowerD t l) = checkD t l ∧ lowerD t (lowerD t l) = lowerD t l := by
  by_cases h0 : checkD t l = 0
  · have hf := (check_zero h0).2.2.2
    cases hp : ptsT t with
    | none =>
      have e : ∀ l, lowerD t l = l := fun l => by unfold lowerD; rw [hp]; rfl
      rw [e, e]; exact ⟨rfl, rfl, rfl⟩
    | some ps =>
      obtain ⟨hr, ⟨h1, h2⟩ | h1⟩ := ptsT_case hp
      · obtain ⟨o, q1, q2⟩ := fits_out hp hf
        have low : ∀ (l : Bs) (o : List (Bs × Bool)), outT t l = some (o, []) → lowerD t l = o.flatMap lowP := fun l o q => by
          unfold lowerD
          rw [hp]
          have e1 : outP t l = o := by unfold outP; rw [q]
          have e2 : (outR t l).isEmpty = true := by unfold outR; rw [q]; rfl
          simp only [Option.isSome_some, cond_true, e1, e2, q, Bool.and_self]
        have e1 := low l o q2
        have q3 := cuts_low ps l o [] h1 q1
        rw [List.append_nil] at q3
        have q4 : outT t (o.flatMap lowP) = some (o.map lowQ, []) := by unfold outT; rw [hp]; exact q3
        have e2 := low _ _ q4
        have hf2 : fitsD t (o.flatMap lowP) = true := by
          unfold fitsD outR
          rw [hp, q4]; rfl
        obtain ⟨w1, w2⟩ := cuts_sum _ _ _ _ q1
        rw [List.append_nil] at w2
        have hlen : (o.flatMap lowP).length = l.length := by
          rw [← w2]
          clear q1 q2 e1 q3 q4 e2 hf2 w1 w2
          induction o with
          | nil => rfl
          | cons x o ih => simp only [List.flatMap_cons, List.length_append, lowP_len, ih]
        rw [e1]
        refine ⟨hlen, ?_, ?_⟩
        · rw [h0]; exact check_fits hp h1 h2 hr hf2
        · rw [e2, List.flatMap_map]
          exact congrArg List.flatten (List.map_congr_left (fun p _ => lowP_lowQ p))
      · have e : lowerD t l = l := by
          subst h1
          obtain ⟨o, q1, q2⟩ := fits_out hp hf
          have e1 : outP t l = o := by unfold outP; rw [q2]
          unfold lowerD
          rw [hp, q2, e1]
          obtain ⟨w1, w2⟩ := cuts_sum _ _ _ _ q1
          simp only [cuts] at q1
          cases hc : Pt.rest.cut l with
          | none => rw [hc] at q1; cases q1
          | some n =>
            rw [hc] at q1
            simp only [Option.map_some, Option.some.injEq, Prod.mk.injEq] at q1
            obtain ⟨rfl, _⟩ := q1
            have hb : (outR t l).isEmpty = true := by unfold outR; rw [q2]; rfl
            rw [hb]
            simpa [lowP, Pt.isName] using w2
        rw [e, e]; exact ⟨rfl, rfl, rfl⟩
  · rw [lower_no h0, lower_no h0]; exact ⟨rfl, rfl, rfl⟩
theorem tgtD_lower (t : Int) (l : Bs) : (tgtD t (lowerD t l)).isSome = (tgtD t l).isSome ∧ ∀ n, tgtD t l = some n → tgtD t (lowerD t l) = some (lower n) ∧ (labels n).2 = 0 := by
  obtain ⟨s1, s2, s3⟩ := lowerD_spec t l
  by_cases h0 : checkD t l = 0
  · have h0' : checkD t (lowerD t l) = 0 := by rw [s2, h0]
    have hf := (check_zero h0).2.2.2
    have frontOf : ∀ (l : Bs), (∃ k, front l = some k ∧ l.take k = l) → (labels l).2 = 0 := fun l ⟨k, hk, ht⟩ => by
      have := (front_take hk).2.2.2
      rwa [ht] at this
    unfold tgtD
    rw [if_pos h0, if_pos h0']
    by_cases h1 : t = 2 ∨ t = 5 ∨ t = 12
    · rw [if_pos h1, if_pos h1]
      have hp : ptsT t = some [.nm] := by rcases h1 with rfl | rfl | rfl <;> rfl
      have ho := out_nm hp hf
      have e : lowerD t l = lower l := by
        unfold lowerD outP outR
        rw [hp, ho]
        simp [lowP]
      obtain ⟨o, q1, q2⟩ := fits_out hp hf
      have hl : (labels l).2 = 0 := by
        simp only [cuts] at q1
        cases hc : Pt.nm.cut l with
        | none => rw [hc] at q1; cases q1
        | some k =>
          rw [hc] at q1
          simp only [Option.map_some, Option.some.injEq, Prod.mk.injEq] at q1
          exact frontOf l ⟨k, hc, cut_all hc q1.2⟩
      refine ⟨rfl, fun n hn => ?_⟩
      simp only [Option.some.injEq] at hn
      subst hn
      rw [e]; exact ⟨rfl, hl⟩
    · rw [if_neg h1, if_neg h1]
      by_cases h2 : t = 15
      · subst h2
        rw [if_pos rfl, if_pos rfl]
        have ho := out_mx hf
        have e : lowerD 15 l = l.take 2 ++ lower (l.drop 2) := by
          unfold lowerD outP outR
          rw [show ptsT 15 = some [.sz 2, .nm] from rfl, ho]
          simp [lowP]
        obtain ⟨o, q1, q2⟩ := fits_out (t := 15) (ps := [.sz 2, .nm]) rfl hf
        simp only [cuts] at q1
        cases hc0 : (Pt.sz 2).cut l with
        | none => rw [hc0] at q1; cases q1
        | some m =>
          rw [hc0] at q1
          have hm : m = 2 ∧ 2 ≤ l.length := by simp only [Pt.cut] at hc0; split at hc0 <;> cases hc0; exact ⟨rfl, by assumption⟩
          obtain ⟨rfl, hm2⟩ := hm
          simp only [] at q1
          cases hc : Pt.nm.cut (l.drop 2) with
          | none => rw [hc] at q1; cases q1
          | some k =>
            rw [hc] at q1
            simp only [Option.map_some, Option.some.injEq, Prod.mk.injEq] at q1
            have hl := frontOf (l.drop 2) ⟨k, hc, cut_all hc q1.2⟩
            refine ⟨rfl, fun n hn => ?_⟩
            simp only [Option.some.injEq] at hn
            subst hn
            rw [e]
            refine ⟨?_, hl⟩
            rw [List.drop_append, List.drop_of_length_le (by rw [List.length_take]; omega)]
            have : 2 - (l.take 2).length = 0 := by rw [List.length_take]; omega
            rw [this]; rfl
      · rw [if_neg h2, if_neg h2]
        exact ⟨rfl, fun n hn => by cases hn⟩
  · have h0' : ¬ checkD t (lowerD t l) = 0 := by rw [s2]; exact h0
    unfold tgtD
    rw [if_neg h0, if_neg h0']
    exact ⟨rfl, fun n hn => by cases hn⟩
end Go.Proofs.Ytmpaeabkdhjamaa
/- DERIVED. The law's walk: RecReadsOnly. -/
namespace Go.Proofs.Ytmpaeabkdhjamaa
open Go Go.RowKit
theorem Rd.nm {B : Bl} {a p i : Nat} {out : Bl} {bh : Int} {r : RR} (h : Rd B a p i out bh r) (he : r.e = 0) : ∃ x, r.s = out ++ x ∧ Nm x := by
  induction h with
  | zero h hc => exact ⟨[0], rfl, .root⟩
  | ptr h hc h2 h3 hr ih => exact ih he
  | lab h hc hc2 h2 h3 hr ih =>
    rename_i i out bh r
    obtain ⟨x, e1, e2⟩ := ih he
    refine ⟨(B.drop i).take (cB B i + 1) ++ x, by rw [e1, List.append_assoc], ?_⟩
    have hg : B.getD i 0 = B[i] := by simp [List.getD_eq_getElem?_getD, List.getElem?_eq_getElem h]
    have e : (B.drop i).take (cB B i + 1) = B.getD i 0 :: (B.drop (i + 1)).take (cB B i) := by rw [List.drop_eq_getElem_cons h, List.take_succ_cons, hg]
    rw [e, List.cons_append]
    exact .lab _ _ _ hc hc2 (by rw [List.length_take, List.length_drop]; unfold cB at *; omega) e2
  | _ => cases he
theorem rdOk.nm {B : Bl} {x : Int} {r : RR} (h : rdOk B x r) (he : r.e = 0) : (labels r.s).2 = 0 := by
  have hf := (h.fine.2 he).2.2
  rcases h with ⟨_, rfl⟩ | ⟨a, rfl, h1, h2⟩
  · cases he
  · obtain ⟨x, e1, e2⟩ := h2.nm he
    rw [List.nil_append] at e1
    rw [e1] at hf ⊢
    exact (labels_nm x).2 ⟨e2, hf⟩
noncomputable def tbR9 : Tb Try.prog 0 := tbOf mixed [cq_recread.ct, cq_question.ct, ct_recCheck, ct_pick, Ct.yes 15 awake_calls]
set_option maxRecDepth 1000000 in
set_option maxHeartbeats 4000000 in
theorem ronly_fn (l : Bl) (c : Nat) (i : Int) (hl : l.length ≤ c) (hc : c ≤ 9223372036854775807) : ∃ r, FnS Try.prog 0 7 [.slice (some ⟨0, 0, none⟩) l.length c, .int .i64 i] (heap 1 [(0, .win (l.map byV) 1)]) 1 r ∧ ∃ H m wr, r = .ret (.bool true) H m wr ∧ ∀ k ∈ wr, 1 ≤ k := by
  have hB : (l.drop 0).take l.length = l := by rw [List.drop_zero, List.take_length]
  refine fn_sx mixed tbR9 [0] Try.func7 (c := bodyOf Try.f7) (by kernel_rfl) ?_
  refine ifK (fun _ => ?_) (fun h0 => ?_)
  · exact ⟨_, _, _, rfl, wr_ge rfl⟩
  have h0 : ¬ (l.length : Int) > 3000 := of_decide_eq_false h0
  have e1 : IntKind.i64.wrap ((l.length : Int) + 1) = l.length + 1 := wrapM (by omega) (by omega)
  have ep : pickI i (IntKind.i64.wrap ((l.length : Int) + 1)) = i % (l.length + 1) := by rw [e1, pickI_of (by omega) (by omega)]
  refine Exists.intro (⟨0, 0, l.length, c, l⟩, pickI i (IntKind.i64.wrap ((l.length : Int) + 1))) (And.intro ⟨rfl, ⟨rfl, (by show 0 + l.length ≤ l.length; omega)⟩, (by show l.length ≤ _; omega), .inr ⟨hl, hc⟩⟩ ?_)
  intro v hv
  have hv : recQ ((l.drop 0).take l.length) (pickI i (IntKind.i64.wrap ((l.length : Int) + 1))) v := hv
  rw [hB] at hv
  obtain ⟨P, hP⟩ : ∃ P, pickI i (IntKind.i64.wrap ((l.length : Int) + 1)) = P := ⟨_, rfl⟩
  have hP2 : 0 ≤ P ∧ P ≤ l.length := by
    rw [← hP, ep]
    have := Int.emod_nonneg i (show ((l.length : Int) + 1) ≠ 0 by omega)
    have := Int.emod_lt_of_pos i (show (0 : Int) < l.length + 1 by omega)
    omega
  have numlt : ∀ k sz, sz ≤ 2 → numAt l k sz < 65536 := fun k sz hs => by
    unfold numAt
    refine Nat.lt_of_lt_of_le (beN_lt _) (Nat.le_trans (Nat.pow_le_pow_right (by decide) (show _ ≤ 2 by rw [List.length_take]; omega)) (by decide))
  cases hv with
  | @name r hr he =>
    obtain ⟨p1, p2⟩ := hr.fine.1 he
    refine ifK (fun _ => ?_) (fun g => absurd g (by simpa using he))
    refine And.intro ?_ ?_
    · kernel_rfl
    refine ifK (fun _ => ?_) (fun g => absurd p1 (of_decide_eq_false g))
    exact ⟨_, _, _, congrArg (fun b => Res.ret (.bool b) _ _ _) (decide_eq_true p2), wr_ge rfl⟩
  | short hr he hk hlen =>
    refine And.intro ?_ ?_
    · kernel_rfl
    exact ⟨_, _, _, congrArg (fun b => Res.ret (.bool b) _ _ _) (decide_eq_true (Int.le_refl _)), wr_ge rfl⟩
  | @data r k y hr he hk hlen hy hf =>
    obtain ⟨_, p1, p2⟩ := hy.fine.1 hf
    refine ifK (fun _ => ?_) (fun g => absurd g (by simpa using hf))
    refine And.intro ?_ ?_
    · kernel_rfl
    refine ifK (fun _ => ?_) (fun g => absurd p1 (of_decide_eq_false g))
    exact ⟨_, _, _, congrArg (fun b => Res.ret (.bool b) _ _ _) (decide_eq_true p2), wr_ge rfl⟩
  | @fine r k y hr he hk hlen hy hf =>
    have hnext := hr.pos he
    rw [hk, hP] at hnext
    obtain ⟨_, hchk, _, hin⟩ := hy.fine.2 hf
    have hnm := hr.nm he
    have hs := (hr.fine.2 he).2.2
    have hd : y.1.length ≤ 65535 := (check_zero hchk).2.2.1
    refine Exists.intro (⟨0, 0, l.length, c, l⟩, pickI i (IntKind.i64.wrap ((l.length : Int) + 1))) (And.intro ⟨rfl, ⟨rfl, (by show 0 + l.length ≤ l.length; omega)⟩, (by show l.length ≤ _; omega), .inr ⟨hl, hc⟩⟩ ?_)
    intro u hu
    have hu : queQ ((l.drop 0).take l.length) (pickI i (IntKind.i64.wrap ((l.length : Int) + 1))) u := hu
    rw [hB] at hu
    have eu := hu.det (queQ.fine hr he hk (by omega))
    subst eu
    obtain ⟨ttl, httl⟩ : ∃ ttl : Int, (if numAt l (k + 4) 4 > 2147483647 then 0 else (numAt l (k + 4) 4 : Int)) = ttl := ⟨_, rfl⟩
    have httl2 : 0 ≤ ttl ∧ ttl ≤ 2147483647 := by rw [← httl]; split <;> omega
    obtain ⟨x, hx⟩ : ∃ x : RcX, x = ⟨⟨r.s.toArray⟩, (numAt l k 2 : Int), (numAt l (k + 2) 2 : Int), ttl, ⟨y.1.toArray⟩⟩ := ⟨_, rfl⟩
    have eS : bs ⟨r.s.toArray⟩ = r.s := bs_mk _
    have eD : bs ⟨y.1.toArray⟩ = y.1 := bs_mk _
    have hxok : x.ok = true := by
      subst hx
      unfold RcX.ok
      rw [Nat.ble_eq_true_of_le (by show r.s.length ≤ _; omega), Nat.ble_eq_true_of_le (by show y.1.length ≤ _; omega)]; rfl
    have hrc : recC x = 0 := by
      subst hx
      unfold recC
      simp only [eS, eD]
      have n1 := numlt k 2 (Nat.le_refl _)
      have n2 := numlt (k + 2) 2 (Nat.le_refl _)
      have b1 : numB (numAt l k 2 : Int) 65535 = true := by unfold numB; rw [decide_eq_true_iff]; omega
      have b2 : numB (numAt l (k + 2) 2 : Int) 65535 = true := by unfold numB; rw [decide_eq_true_iff]; omega
      have b3 : numB ttl 2147483647 = true := by unfold numB; rw [decide_eq_true_iff]; omega
      rw [if_neg (by rw [hnm]; simp), b1, b2, b3]
      simpa using hchk
    have hxok' : (⟨⟨r.s.toArray⟩, (numAt l k 2 : Int), (numAt l (k + 2) 2 : Int), (if numAt l (k + 4) 4 > 2147483647 then 0 else (numAt l (k + 4) 4 : Int)), ⟨y.1.toArray⟩⟩ : RcX).ok = true := by rw [httl, ← hx]; exact hxok
    refine And.intro hxok' ?_
    have hrc' : (recC (⟨⟨r.s.toArray⟩, (numAt l k 2 : Int), (numAt l (k + 2) 2 : Int), (if numAt l (k + 4) 4 > 2147483647 then 0 else (numAt l (k + 4) 4 : Int)), ⟨y.1.toArray⟩⟩ : RcX) == 0) = true := by rw [httl, ← hx, hrc]; rfl
    refine ifK (fun _ => ?_) (fun g => by cases hrc'.symm.trans g)
    refine ifK (fun _ => ?_) (fun g => absurd (show ((k + 10 : Nat) : Int) + (numAt l (k + 8) 2 : Int) > pickI i (IntKind.i64.wrap ((l.length : Int) + 1)) by rw [hP]; omega) (of_decide_eq_false g))
    refine ifK (fun _ => ?_) (fun g => absurd hin (of_decide_eq_false g))
    refine ifK (fun _ => ?_) (fun g => absurd (show ((k + 4 : Nat) : Int) < ((k + 10 : Nat) : Int) + (numAt l (k + 8) 2 : Int) by omega) (of_decide_eq_false g))
    refine And.intro ?_ ?_
    · kernel_rfl
    exact ⟨_, _, _, congrArg (fun b => Res.ret (.bool b) _ _ _) (by simp), wr_ge rfl⟩
end Go.Proofs.Ytmpaeabkdhjamaa
