/- DERIVED. Parts. -/
import Derived.Test.YtcggcoijhdagnaaZ12
import Derived.Test.YtcggcoijhdagnaaZ13
import Derived.Test.YtcggcoijhdagnaaZ16
import Derived.Test.YtcggcoijhdagnaaZ17
set_option maxRecDepth 1000000
set_option maxHeartbeats 32000000
namespace Go.Proofs.Ytcggcoijhdagnaa
open Go Go.RowKit
noncomputable def tbWr : Tb Try.prog 0 := tbOf mixed [zNx, zMo, zUl]
theorem zAi {G : Gh} {b c sz : Nat} {l : Bl} (hs : sz = 1) (hG : (G b).bind AObj.look = some (l.map byV)) : zAq G sz (sq b l.length c) = some (l.length, l.map byV) := by
 subst hs
 unfold zAq
 cases hl : Nat.beq l.length 0 with
 | true =>
  have : l = [] := List.length_eq_zero_iff.1 (aA hl)
  subst this
  simp [hl]
 | false =>
  simp only [hl, cF, hG]
  rw [show (0 + l.length * 1).ble (l.map byV).length = true from bL (by simp)]
  simp only [cT, List.drop_zero, aR]
  rw [aD (by simp)]
theorem oneB (l : Bl) : oneL (l.map byV) = true := by
 induction l with
 | nil => rfl
 | cons x l ih =>
  unfold oneL at ih ⊢
  rw [List.map_cons, List.all_cons, ih]; rfl
theorem map_ro {σ : Nat -> Nat -> Prop} (T F G : List (Bl × Nat)) (ck : Nat) : RO Try.prog σ (.map (encT ((T ++ F) ++ G)) (ck + F.length + G.length)) (.map (encT (T ++ (F ++ G))) (ck + (F ++ G).length)) := by
 rw [<- aN, aB, <- Nat.add_assoc]; exact RO.map _ _ _ (zAh _)
theorem zBb {σ : Nat -> Nat -> Prop} (b b' : Nat) (h : σ b b') (en : Nat) : RO Try.prog σ (.cells [.map (some b), .int .i64 (en : Int)] 98) (.cells [.map (some b'), .int .i64 (en : Int)] 98) := RO.cells [_, _] [] _ _ (.cons _ _ _ _ (.map _ _ h) (.cons _ _ _ _ (.int _ _) .nil))
def wrE (a : Int) (ps : List (Bs × Bool)) (c : Nat) (T : List (Bl × Nat)) (ck : Nat) (i : Nat) (out : Bl) (F : List (Bl × Nat)) (en : Nat) (f : Nat -> Option Value) : Fs := match out with
 | [] => ⟨slots 7 [(0, pt 0), (1, .int .i64 a), (15, .slice none 0 0), (40, sq 2 ps.length c), (41, .int .i64 ps.length), (42, .int .i64 (i : Int))] f, heap 3 [(0, .cells [.map (some 1), .int .i64 (en : Int)] 98), (1, .map (encT (T ++ F)) (ck + F.length)), (2, .cells (ps.flatMap pc) 127)], 3, [0, 1], []⟩
 | u :: us => ⟨slots 7 [(0, pt 0), (1, .int .i64 a), (15, sq 3 (us.length + 1) U), (40, sq 2 ps.length c), (41, .int .i64 ps.length), (42, .int .i64 (i : Int))] f, heap 3 [(0, .cells [.map (some 1), .int .i64 (en : Int)] 98), (1, .map (encT (T ++ F)) (ck + F.length)), (2, .cells (ps.flatMap pc) 127), (3, .cells ((u :: us).map byV) 5)], 4, [0, 1], []⟩
def wrpS (a : Int) (ps : List (Bs × Bool)) (c : Nat) (T : List (Bl × Nat)) (ck : Nat) (x : Nat × Bl × List (Bl × Nat) × Nat) (f : Nat -> Option Value) : Fs := wrE a ps c T ck x.1 x.2.1 x.2.2.1 x.2.2.2 f
theorem wr_loop (a : Int) (ps : List (Bs × Bool)) (c : Nat) (T : List (Bl × Nat)) (ck en0 : Nat) (hT : goodT T) (hps : ∀ p ∈ ps, p.1.length <= 65535) (hl : ps.length <= 1000) (R : Int × Bl × List (Bl × Nat) × Nat) (hR : wrN a T ps [] [] en0 = R) {s0 : Fs} {K : Ex -> Fs -> Prop}
  (h0 : ∃ f, RcM Try.prog 0 2 (4 + (Try.f73.ntmps - 4)) none s0 (wrpS a ps c T ck (0, [], [], en0) f))
  (hex : ∀ out F en f, R = (0, out, F, en) -> out.length <= 100000000 -> K (.exit 0) (wrE a ps c T ck ps.length out F en f))
  (hret : ∀ (e : Int) (F : List (Bl × Nat)) (en : Nat) f, e ≠ 0 -> R = (e, [], F, en) -> K .ret ⟨slots 7 [(8, .slice none 0 0), (9, .int .i64 e)] f, heap 3 [(0, .cells [.map (some 1), .int .i64 (en : Int)] 98), (1, .map (encT (T ++ F)) (ck + F.length))], 2, [0, 1], []⟩) :
  LW Try.prog 0 2 (4 + (Try.f73.ntmps - 4)) none (loopAt Try.f73 0) s0 K := by
 have h1s : (Try.prog.types[5]).size = 1 := by kernel_rfl
 have hby : (Try.prog.types[5]).bytes = 1 := by kernel_rfl
 have h2s : (Try.prog.types[127]).size = 2 := by kernel_rfl
 have pP : plainL (ps.flatMap pc) = true := zAc _ zDk ps
 refine zAn (wrpS a ps c T ck) (fun x => ps.length - x.1) (fun x => x.1 <= ps.length /\ goodT (T ++ x.2.2.1) /\ x.2.1.length <= 70000 * x.1 /\ wrN a T (ps.drop x.1) x.2.1 x.2.2.1 x.2.2.2 = R) (0, [], [], en0) ⟨aH _, by rw [aF]; exact hT, aJ _, by rw [List.drop_zero]; exact hR⟩ h0 ?_
 rintro ⟨i, out, F, en⟩ f ⟨hi, hg, hol, hR⟩
 have hi : i <= ps.length := hi
 have hg : goodT (T ++ F) := hg
 have hol : out.length <= 70000 * i := hol
 have hR : wrN a T (ps.drop i) out F en = R := hR
 have hend : ¬ i < ps.length -> i = ps.length /\ R = (0, out, F, en) := fun h => by
  have e : i = ps.length := by omega
  rw [e, List.drop_length] at hR
  exact ⟨e, hR.symm⟩
 have step : ∀ (h : i < ps.length) (s : Bs) (b : Bool), ps[i] = (s, b) -> wrN a T ((s, b) :: ps.drop (i + 1)) out F en = R /\ s.length <= 65535 /\ ((ps.flatMap pc).drop (i * 2)).take 2 = [.string (mkS s), .bool b] := fun h s b e => by
  refine ⟨by rw [<- e, <- bD h]; exact hR, ?_, ?_⟩
  ·have := hps _ (aV h)
   rw [e] at this; exact this
  have := (zHf pc 2 zJm ps i h).2
  rw [e] at this; exact this
 have ldOK : ∀ (h : i < ps.length), 0 + ((i : Int)).toNat * (Try.prog.types[127]).size + (Try.prog.types[127]).size <= (ps.flatMap pc).length := fun h => by
  rw [h2s, aO, aS]; exact (zHf pc 2 zJm ps i h).1
 have hdrop : ∀ s b, wrN a T ((s, b) :: ps.drop (i + 1)) out F en = wrN a T ((s, b) :: ps.drop (i + 1)) out F en := fun _ _ => rfl
 cases out with
 | nil =>
  refine zAm tbWr [2, 4] 2 _ none mixed _ _ _ ?_
  refine ifK (fun h1 => ?_) (fun h1 => ?_)
  ·have h1 : i < ps.length := by have := oT h1; omega
   obtain ⟨s, b, hp⟩ : ∃ s b, ps[i] = (s, b) := ⟨_, _, rfl⟩
   obtain ⟨hR, hsl, hat⟩ := step h1 s b hp
   refine ifK (fun _ => ?_) (fun h2 => ab h2 (by simp [inI]; omega))
   have hat2 : ((ps.flatMap pc).drop (0 + ((i : Int)).toNat * (Try.prog.types[127]).size)).take (Try.prog.types[127]).size = [.string (mkS s), .bool b] := by rw [h2s, aO, aS]; exact hat
   cases b with
   | false =>
    unfold wrN at hR
    refine eI (mkS s) (eI false (aI ⟨ldOK h1, hat2⟩ ?_))
    cases s with
    | nil =>
     refine ⟨(i + 1, [], F, en), ⟨h1, hg, by show 0 <= _; omega, by show wrN a T (ps.drop (i + 1)) _ F en = R; rw [aF] at hR; exact hR⟩, by show ps.length - (i + 1) < ps.length - i; omega, ?_⟩
     exact rcq [2] ⟨(sP rfl rfl), (sI rfl), ⟨_, rfl, zAf 8 rfl⟩, (sL rfl rfl), (sI rfl), zAb rfl (by rw [wrapN (by omega) (by omega)]; omega), tv⟩ ⟨⟨by decide, _, rfl, zBb 1 1 (by exact rfl) en⟩, ⟨by decide, _, rfl, RO.map _ _ _ (zAh _)⟩, bpo (pP), tv⟩ .nil
    | cons x s =>
     refine aI (by rw [hby, bA]; exact ⟨aX (show (x :: s).length * 1 <= 140737488355328 by omega), aX (show (x :: s).length <= 9223372036854775807 by omega)⟩) ?_
     refine ⟨(i + 1, x :: s, F, en), ⟨h1, hg, by show (x :: s).length <= _; omega, by show wrN a T (ps.drop (i + 1)) (x :: s) F en = R; exact hR⟩, by show ps.length - (i + 1) < ps.length - i; omega, ?_⟩
     exact rcq [2, 4] ⟨(sP rfl rfl), (sI rfl), (sL rfl rfl), (sL rfl rfl), (sI rfl), zAb rfl (by rw [wrapN (by omega) (by omega)]; omega), tv⟩ ⟨⟨by decide, _, rfl, zBb 1 1 (by exact rfl) en⟩, ⟨by decide, _, rfl, RO.map _ _ _ (zAh _)⟩, bpo (pP), bpo (zAa (x :: s)), tv⟩ .nil
   | true =>
    obtain ⟨a', ha'⟩ : ∃ a', a' = IntKind.i64.wrap (a + ((0 : Nat) : Int)) := ⟨_, rfl⟩
    unfold wrN at hR
    simp only [show (List.length ([] : Bl)) = 0 from rfl, <- ha'] at hR
    have hsh : shortB (mkS s) = true := by unfold shortB; rw [zAr]; exact bL (by omega)
    refine eI (mkS s) (eI true (aI ⟨ldOK h1, hat2⟩ ?_))
    by_cases he : pnE en a' (mkS s) ≠ 0
    ·rw [if_pos he] at hR
     refine eI (⟨0, 1, en, T ++ F, ck + F.length, a', mkS s, true, [], []⟩ : PkX) (aI ⟨(by rw [ha'] <;> rfl), (show Tr.get _ 0 = some (AObj.cells [.map (some 1), .int .i64 (en : Int)] _) from rfl), (show Tr.get _ 1 = some (AObj.map (encT (T ++ F)) (ck + F.length)) from rfl), hg, hsh, (aX he).symm, fun h => by cases h⟩ ?_)
     refine ifK (fun _ => ?_) (fun g => ab (show pnE en a' (mkS s) = 0 by have g : (pnE en a' (mkS s) != 0) = false := g; simpa using g) he)
     refine aI rfl (zAg (rcq [] (d := 7) (d2 := 3) (lv := [(8, .slice none 0 0), (9, .int .i64 (pnE en a' (mkS s)))]) (bs := [(0, .cells [.map (some 1), .int .i64 (en : Int)] 98), (1, .map (encT (T ++ F)) (ck + F.length))]) (W := [0, 1]) (m := 2) (df := []) ⟨⟨_, rfl, zAf 8 rfl⟩, (sI rfl), tv⟩ ⟨⟨by decide, _, rfl, zBb 1 1 (by exact rfl) en⟩, ⟨by decide, _, rfl, RO.map _ _ _ (zAh _)⟩, tv⟩ .nil) (fun f => ?_))
     exact hret _ F en f he hR.symm
    rw [if_neg he] at hR
    have he : pnE en a' (mkS s) = 0 := Decidable.not_not.1 he
    have eb : bs (mkS s) = s := by simp [bs, mkS]
    obtain ⟨⟨p1, p2⟩, p3, p4, p5⟩ := zCr he
    rw [eb] at p4 p5
    have hpos := ((zAu s).1 p4).1.pos
    obtain ⟨r, hr⟩ : ∃ r, packN (T ++ F) a'.toNat s.length s 0 = r := ⟨_, rfl⟩
    have hne := zCn (T ++ F) a'.toNat s.length s 0 hpos
    have hl1 := zAw (T ++ F) a'.toNat s.length s 0
    have hgd := zBv hg a'.toNat s.length s 0
    rw [hr] at hne hl1 hgd hR
    obtain ⟨o, F'⟩ := r
    cases o with
    | nil => exact ab rfl hne
    | cons v vs =>
     have hvl : vs.length + 1 <= s.length + 2 := hl1
     refine eI (⟨0, 1, en, T ++ F, ck + F.length, a', mkS s, false, v :: vs, F'⟩ : PkX) (aI ⟨(by rw [ha'] <;> rfl), (show Tr.get _ 0 = some (AObj.cells [.map (some 1), .int .i64 (en : Int)] _) from rfl), (show Tr.get _ 1 = some (AObj.map (encT (T ++ F)) (ck + F.length)) from rfl), hg, hsh, (aY (aL he)).symm, fun _ => by rw [eb]; exact hr⟩ ?_)
     refine eI ((v :: vs).map byV) (aI (zAi (l := v :: vs) h1s rfl) ?_)
     refine aI (by rw [hby]; simp only [bA]; exact ⟨aX (by simp; omega), aX (by simp; omega)⟩) ?_
     refine ⟨(i + 1, v :: vs, F ++ F', a'.toNat + (vs.length + 1)), ⟨h1, by rw [<- aN]; exact hgd, by show (v :: vs).length <= _; simp; omega, by show wrN a T (ps.drop (i + 1)) _ _ _ = R; exact hR⟩, by show ps.length - (i + 1) < ps.length - i; omega, ?_⟩
     exact rcq [2, 5] ⟨(sP rfl rfl), (sI rfl), (sL rfl rfl), (sL rfl rfl), (sI rfl), zAb rfl (by rw [wrapN (by omega) (by omega)]; omega), tv⟩ ⟨⟨by decide, _, rfl, zBb 1 1 (by exact rfl) _⟩, ⟨by decide, _, rfl, map_ro T F F' ck⟩, bpo (pP), bpo (zAa (v :: vs)), tv⟩ .nil
  obtain ⟨e1, e2⟩ := hend (by have := oF h1; omega)
  subst e1
  refine aI rfl (zAg (rcq [2] (d := 7) (d2 := 3) (lv := [(0, pt 0), (1, .int .i64 a), (15, .slice none 0 0), (40, sq 2 ps.length c), (41, .int .i64 ps.length), (42, .int .i64 ps.length)]) (bs := [(0, .cells [.map (some 1), .int .i64 (en : Int)] 98), (1, .map (encT (T ++ F)) (ck + F.length)), (2, .cells (ps.flatMap pc) 127)]) (W := [0, 1]) (m := 3) (df := []) ⟨(sP rfl rfl), (sI rfl), ⟨_, rfl, zAf 8 rfl⟩, (sL rfl rfl), (sI rfl), (sI rfl), tv⟩ ⟨⟨by decide, _, rfl, zBb 1 1 (by exact rfl) en⟩, ⟨by decide, _, rfl, RO.map _ _ _ (zAh _)⟩, bpo (pP), tv⟩ .nil) (fun f => ?_))
  exact hex _ F en f e2 (by first | (show us.length + 1 <= _; have := hl; have := hol; omega) | simp)
 | cons u us =>
  have hol : us.length + 1 <= 70000 * i := hol
  refine zAm tbWr [2, 5] 2 _ none mixed _ _ _ ?_
  refine ifK (fun h1 => ?_) (fun h1 => ?_)
  ·have h1 : i < ps.length := by have := oT h1; omega
   obtain ⟨s, b, hp⟩ : ∃ s b, ps[i] = (s, b) := ⟨_, _, rfl⟩
   obtain ⟨hR, hsl, hat⟩ := step h1 s b hp
   refine ifK (fun _ => ?_) (fun h2 => ab h2 (by simp [inI]; omega))
   have hat2 : ((ps.flatMap pc).drop (0 + ((i : Int)).toNat * (Try.prog.types[127]).size)).take (Try.prog.types[127]).size = [.string (mkS s), .bool b] := by rw [h2s, aO, aS]; exact hat
   cases b with
   | false =>
    unfold wrN at hR
    refine eI (mkS s) (eI false (aI ⟨ldOK h1, hat2⟩ ?_))
    cases s with
    | nil =>
     refine ⟨(i + 1, u :: us, F, en), ⟨h1, hg, by show us.length + 1 <= _; omega, by show wrN a T (ps.drop (i + 1)) _ F en = R; rw [aF] at hR; exact hR⟩, by show ps.length - (i + 1) < ps.length - i; omega, ?_⟩
     exact rcq [2, 3] ⟨(sP rfl rfl), (sI rfl), (sL rfl rfl), (sL rfl rfl), (sI rfl), zAb rfl (by rw [wrapN (by omega) (by omega)]; omega), tv⟩ ⟨⟨by decide, _, rfl, zBb 1 1 (by exact rfl) en⟩, ⟨by decide, _, rfl, RO.map _ _ _ (zAh _)⟩, bpo (pP), bpo (zAa (u :: us)), tv⟩ .nil
    | cons x s =>
     have hone : oneL ((x :: s).map byV) = true := oneB _
     have hsl : s.length + 1 <= 65535 := hsl
     refine aI (by rw [h1s, hby]; simp only [bA, dT]; exact ⟨⟨⟨⟨⟨⟨rfl, rfl⟩, bL (by simp)⟩, hone⟩, (show (us.length + 1 + (s.length + 1)) * 1 <= 140737488355328 by omega)⟩, (show us.length + 1 + (s.length + 1) <= 9223372036854775807 by omega)⟩, bL (by simp [mkS] <;> omega)⟩) ?_
     refine ⟨(i + 1, u :: (us ++ x :: s), F, en), ⟨h1, hg, by show (u :: (us ++ x :: s)).length <= _; simp at hsl ⊢; omega, by show wrN a T (ps.drop (i + 1)) _ F en = R; exact hR⟩, by show ps.length - (i + 1) < ps.length - i; omega, ?_⟩
     have ec : (List.take ((us.length + 1) * 1) (byV u :: us.map byV)) ++ (x :: s).map byV = (u :: (us ++ x :: s)).map byV := by rw [aR, aD (by simp)]; simp
     have el : us.length + 1 + (x :: s).length = (us ++ x :: s).length + 1 := by simp; omega
     exact rcq [2, 5] ⟨(sP rfl rfl), (sI rfl), ⟨_, rfl, by show RV _ (.slice _ (us.length + 1 + (x :: s).length) U) _; rw [el]; exact .sl _ _ _ _ _ rfl⟩, (sL rfl rfl), (sI rfl), zAb rfl (by rw [wrapN (by omega) (by omega)]; omega), tv⟩ ⟨⟨by decide, _, rfl, zBb 1 1 (by exact rfl) en⟩, ⟨by decide, _, rfl, RO.map _ _ _ (zAh _)⟩, bpo (pP), ⟨by decide, _, rfl, zAv (by rw [<- ec]; rfl) (zAa _)⟩, tv⟩ .nil
   | true =>
    obtain ⟨a', ha'⟩ : ∃ a', a' = IntKind.i64.wrap (a + (((us.length + 1) : Nat) : Int)) := ⟨_, rfl⟩
    unfold wrN at hR
    simp only [show (List.length (u :: us)) = (us.length + 1) from rfl, <- ha'] at hR
    have hsh : shortB (mkS s) = true := by unfold shortB; rw [zAr]; exact bL (by omega)
    refine eI (mkS s) (eI true (aI ⟨ldOK h1, hat2⟩ ?_))
    by_cases he : pnE en a' (mkS s) ≠ 0
    ·rw [if_pos he] at hR
     refine eI (⟨0, 1, en, T ++ F, ck + F.length, a', mkS s, true, [], []⟩ : PkX) (aI ⟨(by rw [ha'] <;> rfl), (show Tr.get _ 0 = some (AObj.cells [.map (some 1), .int .i64 (en : Int)] _) from rfl), (show Tr.get _ 1 = some (AObj.map (encT (T ++ F)) (ck + F.length)) from rfl), hg, hsh, (aX he).symm, fun h => by cases h⟩ ?_)
     refine ifK (fun _ => ?_) (fun g => ab (show pnE en a' (mkS s) = 0 by have g : (pnE en a' (mkS s) != 0) = false := g; simpa using g) he)
     refine aI rfl (zAg (rcq [] (d := 7) (d2 := 3) (lv := [(8, .slice none 0 0), (9, .int .i64 (pnE en a' (mkS s)))]) (bs := [(0, .cells [.map (some 1), .int .i64 (en : Int)] 98), (1, .map (encT (T ++ F)) (ck + F.length))]) (W := [0, 1]) (m := 2) (df := []) ⟨⟨_, rfl, zAf 8 rfl⟩, (sI rfl), tv⟩ ⟨⟨by decide, _, rfl, zBb 1 1 (by exact rfl) en⟩, ⟨by decide, _, rfl, RO.map _ _ _ (zAh _)⟩, tv⟩ .nil) (fun f => ?_))
     exact hret _ F en f he hR.symm
    rw [if_neg he] at hR
    have he : pnE en a' (mkS s) = 0 := Decidable.not_not.1 he
    have eb : bs (mkS s) = s := by simp [bs, mkS]
    obtain ⟨⟨p1, p2⟩, p3, p4, p5⟩ := zCr he
    rw [eb] at p4 p5
    have hpos := ((zAu s).1 p4).1.pos
    obtain ⟨r, hr⟩ : ∃ r, packN (T ++ F) a'.toNat s.length s 0 = r := ⟨_, rfl⟩
    have hne := zCn (T ++ F) a'.toNat s.length s 0 hpos
    have hl1 := zAw (T ++ F) a'.toNat s.length s 0
    have hgd := zBv hg a'.toNat s.length s 0
    rw [hr] at hne hl1 hgd hR
    obtain ⟨o, F'⟩ := r
    cases o with
    | nil => exact ab rfl hne
    | cons v vs =>
     have hvl : vs.length + 1 <= s.length + 2 := hl1
     refine eI (⟨0, 1, en, T ++ F, ck + F.length, a', mkS s, false, v :: vs, F'⟩ : PkX) (aI ⟨(by rw [ha'] <;> rfl), (show Tr.get _ 0 = some (AObj.cells [.map (some 1), .int .i64 (en : Int)] _) from rfl), (show Tr.get _ 1 = some (AObj.map (encT (T ++ F)) (ck + F.length)) from rfl), hg, hsh, (aY (aL he)).symm, fun _ => by rw [eb]; exact hr⟩ ?_)
     refine eI ((v :: vs).map byV) (aI (zAi (l := v :: vs) h1s rfl) ?_)
     have hone : oneL ((v :: vs).map byV) = true := oneB _
     refine aI (by rw [h1s, hby]; simp only [bA, dT]; exact ⟨⟨⟨⟨⟨⟨rfl, rfl⟩, bL (by simp)⟩, hone⟩, (by simp; omega)⟩, (by simp; omega)⟩, bL (by simp <;> omega)⟩) ?_
     have ec : (List.take ((us.length + 1) * 1) (byV u :: us.map byV)) ++ (v :: vs).map byV = (u :: (us ++ v :: vs)).map byV := by rw [aR, aD (by simp)]; simp
     have el : us.length + 1 + (v :: vs).length = (us ++ v :: vs).length + 1 := by simp; omega
     refine ⟨(i + 1, u :: (us ++ v :: vs), F ++ F', a'.toNat + (vs.length + 1)), ⟨h1, by rw [<- aN]; exact hgd, by show (u :: (us ++ v :: vs)).length <= _; simp; omega, by show wrN a T (ps.drop (i + 1)) _ _ _ = R; exact hR⟩, by show ps.length - (i + 1) < ps.length - i; omega, ?_⟩
     exact rcq [2, 6] ⟨(sP rfl rfl), (sI rfl), ⟨_, rfl, by show RV _ (.slice _ (us.length + 1 + (v :: vs).length) U) _; rw [el]; exact .sl _ _ _ _ _ rfl⟩, (sL rfl rfl), (sI rfl), zAb rfl (by rw [wrapN (by omega) (by omega)]; omega), tv⟩ ⟨⟨by decide, _, rfl, zBb 1 1 (by exact rfl) _⟩, ⟨by decide, _, rfl, map_ro T F F' ck⟩, bpo (pP), ⟨by decide, _, rfl, zAv (by rw [<- ec]; rfl) (zAa _)⟩, tv⟩ .nil
  obtain ⟨e1, e2⟩ := hend (by have := oF h1; omega)
  subst e1
  refine aI rfl (zAg (rcq [2, 3] (d := 7) (d2 := 3) (lv := [(0, pt 0), (1, .int .i64 a), (15, sq 3 (us.length + 1) U), (40, sq 2 ps.length c), (41, .int .i64 ps.length), (42, .int .i64 ps.length)]) (bs := [(0, .cells [.map (some 1), .int .i64 (en : Int)] 98), (1, .map (encT (T ++ F)) (ck + F.length)), (2, .cells (ps.flatMap pc) 127), (3, .cells ((u :: us).map byV) 5)]) (W := [0, 1]) (m := 4) (df := []) ⟨(sP rfl rfl), (sI rfl), (sL rfl rfl), (sL rfl rfl), (sI rfl), (sI rfl), tv⟩ ⟨⟨by decide, _, rfl, zBb 1 1 (by exact rfl) en⟩, ⟨by decide, _, rfl, RO.map _ _ _ (zAh _)⟩, bpo (pP), bpo (zAa (u :: us)), tv⟩ .nil) (fun f => ?_))
  exact hex _ F en f e2 (by first | (show us.length + 1 <= _; have := hl; have := hol; omega) | simp)
noncomputable def tbWq : Tb Try.prog 0 := tbOf mixed [zKt, ct_form, zQb, zUk]
def pcZ (x : Int × Bs) : Bs × Bool := (x.2, decide (x.1 = -1))
theorem zGm {T F G : List (Bl × Nat)} : (((T ++ F) ++ G).flatMap layT.g) = ((T ++ (F ++ G)).flatMap layT.g) := by rw [aN]
theorem zBa (T : List (Bl × Nat)) : plainL (T.flatMap layT.g) = true := zAc layT.g layT.plain _
theorem zEi {σ : Nat -> Nat -> Prop} (k b : Nat) (h : σ k b) {c c' : Nat} (e : c = c') (en : Nat) : RO Try.prog σ (.cells [sq k c U, .int .i64 (en : Int)] 74) (.cells [sq b c' U, .int .i64 (en : Int)] 74) := by subst e; exact zBp σ k b h c en
theorem zEm {T F G : List (Bl × Nat)} : (T ++ F ++ G).length = (T ++ (F ++ G)).length := by rw [aN]
theorem zNs : (Try.prog.types[5]).size = 1 /\ (Try.prog.types[5]).bytes = 1 := ⟨by kernel_rfl, by kernel_rfl⟩
theorem zFk {u : UInt8} {us o : Bl} (h1 : us.length <= 100000000) (h2 : o.length <= 100000000) (h3 : 0 < o.length) : (Nat.beq 0 0 && Nat.beq 5 5 && ((us.length + 1) * (Try.prog.types[5]).size).ble ((u :: us).map byV).length && oneL (o.map byV) && decide ((us.length + 1 + o.length) * (Try.prog.types[5]).bytes <= 140737488355328) && decide (us.length + 1 + o.length <= 9223372036854775807) && ((u :: us).map byV).length.blt (0 + (us.length + 1) * (Try.prog.types[5]).size + (o.map byV).length)) = true := by
 rw [zNs.1, zNs.2]; simp only [bA, dT]
 exact ⟨⟨⟨⟨⟨⟨rfl, (by simp)⟩, bL (by simp)⟩, oneB _⟩, (by omega)⟩, (by omega)⟩, bL (by simp <;> omega)⟩
theorem zIn {o : Bl} (h : o.length <= 100000000) : (decide (o.length * (Try.prog.types[5]).bytes <= 140737488355328) && decide (o.length <= 9223372036854775807)) = true := by
 rw [zNs.2, bA]; exact ⟨aX (by omega), aX (by omega)⟩
theorem zFl {σ : Nat -> Nat -> Prop} (u : UInt8) (us o : Bl) : RO Try.prog σ (.cells (List.take ((us.length + 1) * 1) (byV u :: us.map byV) ++ o.map byV) 5) (.cells ((u :: (us ++ o)).map byV) 5) := by
 refine zAv ?_ (zAa _)
 rw [aR, aD (by simp)]; simp
theorem zDp {us : Bl} {o : Bl} : us.length + 1 + o.length = (us ++ o).length + 1 := by simp; omega
def rwoE (a : Int) (Z : List (Int × Bs)) (T : List (Bl × Nat)) (i : Nat) (out : Bl) (F : List (Bl × Nat)) (en : Nat) (f : Nat -> Option Value) : Fs := match out, F with
 | [], _ => ⟨slots 7 [(0, pt 0), (1, .int .i64 a), (11, sq 2 Z.length Z.length), (12, sq 3 Z.length U), (14, .slice none 0 0), (15, .int .i64 (i : Int))] f, heap 4 [(0, .cells [sq 1 T.length U, .int .i64 (en : Int)] 74), (1, .cells (T.flatMap layT.g) 130), (2, .cells (Z.map zi) 3), (3, .cells (Z.map zs) 9)], 4, [0, 1], []⟩
 | u :: us, [] => ⟨slots 7 [(0, pt 0), (1, .int .i64 a), (11, sq 2 Z.length Z.length), (12, sq 3 Z.length U), (14, sq 4 (us.length + 1) U), (15, .int .i64 (i : Int))] f, heap 4 [(0, .cells [sq 1 T.length U, .int .i64 (en : Int)] 74), (1, .cells (T.flatMap layT.g) 130), (2, .cells (Z.map zi) 3), (3, .cells (Z.map zs) 9), (4, .cells ((u :: us).map byV) 5)], 5, [0, 1], []⟩
 | u :: us, p :: F => ⟨slots 7 [(0, pt 0), (1, .int .i64 a), (11, sq 2 Z.length Z.length), (12, sq 3 Z.length U), (14, sq 5 (us.length + 1) U), (15, .int .i64 (i : Int))] f, heap 4 [(0, .cells [sq 4 (T ++ p :: F).length U, .int .i64 (en : Int)] 74), (2, .cells (Z.map zi) 3), (3, .cells (Z.map zs) 9), (4, .cells ((T ++ p :: F).flatMap layT.g) 130), (5, .cells ((u :: us).map byV) 5)], 6, [0, 1], []⟩
def rwoS (a : Int) (Z : List (Int × Bs)) (T : List (Bl × Nat)) (x : Nat × Bl × List (Bl × Nat) × Nat) (f : Nat -> Option Value) : Fs := rwoE a Z T x.1 x.2.1 x.2.2.1 x.2.2.2 f
def rwoR (a : Int) (T : List (Bl × Nat)) (F : List (Bl × Nat)) (en : Nat) (e : Int) (f : Nat -> Option Value) : Fs := match F with
 | [] => ⟨slots 7 [(8, .slice none 0 0), (9, .int .i64 e)] f, heap 3 [(0, .cells [sq 1 T.length U, .int .i64 (en : Int)] 74), (1, .cells (T.flatMap layT.g) 130)], 2, [0, 1], []⟩
 | p :: F => ⟨slots 7 [(8, .slice none 0 0), (9, .int .i64 e)] f, heap 3 [(0, .cells [sq 2 (T ++ p :: F).length U, .int .i64 (en : Int)] 74), (2, .cells ((T ++ p :: F).flatMap layT.g) 130)], 3, [0, 1], []⟩
theorem rwo_loop (a : Int) (Z : List (Int × Bs)) (T : List (Bl × Nat)) (en0 : Nat) (hT : goodT T) (hT0 : T ≠ []) (hTl : T.length <= 900000000) (hps : ∀ p ∈ Z, p.2.length <= 65535) (hl : Z.length <= 1000) (R : Int × Bl × List (Bl × Nat) × Nat) (hR : wrN a T (Z.map pcZ) [] [] en0 = R) {s0 : Fs} {K : Ex -> Fs -> Prop}
  (h0 : ∃ f, RcM Try.prog 0 2 (4 + (Try.f78.ntmps - 4)) none s0 (rwoS a Z T (0, [], [], en0) f))
  (hex : ∀ out F en f, R = (0, out, F, en) -> (out = [] -> F = []) -> out.length <= 100000000 -> K (.exit 0) (rwoE a Z T Z.length out F en f))
  (hret : ∀ (e : Int) (F : List (Bl × Nat)) (en : Nat) f, e ≠ 0 -> R = (e, [], F, en) -> K .ret (rwoR a T F en e f)) :
  LW Try.prog 0 2 (4 + (Try.f78.ntmps - 4)) none (loopAt Try.f78 0) s0 K := by
 have h1s : (Try.prog.types[5]).size = 1 := by kernel_rfl
 have h3s : (Try.prog.types[3]).size = 1 := by kernel_rfl
 have h9s : (Try.prog.types[9]).size = 1 := by kernel_rfl
 refine zAn (rwoS a Z T ) (fun x => Z.length - x.1) (fun x => x.1 <= Z.length /\ goodT (T ++ x.2.2.1) /\ x.2.1.length <= 70000 * x.1 /\ x.2.2.1.length <= 257 * x.1 /\ (x.2.1 = [] -> x.2.2.1 = []) /\ wrN a T ((Z.map pcZ).drop x.1) x.2.1 x.2.2.1 x.2.2.2 = R) (0, [], [], en0) ⟨aH _, by rw [aF]; exact hT, aJ _, aJ _, fun _ => rfl, by rw [List.drop_zero]; exact hR⟩ h0 ?_
 rintro ⟨i, out, F, en⟩ f ⟨hi, hg, hol, hFl, hoF, hR⟩
 have hi : i <= Z.length := hi
 have hg : goodT (T ++ F) := hg
 have hol : out.length <= 70000 * i := hol
 have hFl : F.length <= 257 * i := hFl
 have hoF : out = [] -> F = [] := hoF
 have hR : wrN a T ((Z.map pcZ).drop i) out F en = R := hR
 have hend : ¬ i < Z.length -> i = Z.length /\ R = (0, out, F, en) := fun h => by
  have e : i = Z.length := by omega
  rw [e, List.drop_of_length_le (by simp)] at hR
  exact ⟨e, hR.symm⟩
 have step : ∀ (h : i < Z.length) (k : Int) (s : Bs), Z[i] = (k, s) -> wrN a T ((s, decide (k = -1)) :: (Z.map pcZ).drop (i + 1)) out F en = R /\ s.length <= 65535 /\ (Z.map zs)[0 + ((i : Int)).toNat * (Try.prog.types[9]).size]? = some (.string (mkS s)) /\ (Z.map zi)[0 + ((i : Int)).toNat * (Try.prog.types[3]).size]? = some (.int .i64 k) := fun h k s e => by
  have hm : i < (Z.map pcZ).length := by rw [aT]; exact h
  refine ⟨?_, ?_, ?_, ?_⟩
  ·rw [<- hR, bD hm, List.getElem_map, e]; rfl
  ·have := hps _ (aV h)
   rw [e] at this; exact this
  ·rw [h9s, aO, aS, aR]; simp [h, e, zs, str, mkS]
  rw [h3s, aO, aS, aR]; simp [h, e, zi, intV]
 cases out with
 | nil =>
  have hF0 : F = [] := hoF rfl
  subst hF0
  have hFT : goodT (T ++ ([] : List (Bl × Nat))) := hg
  refine zAm tbWq [2, 3, 4, 5] 2 _ none mixed _ _ _ ?_
  refine ifK (fun h1 => ?_) (fun h1 => ?_)
  ·have h1 : i < Z.length := by have := oT h1; omega
   obtain ⟨k, s, hp⟩ : ∃ k s, Z[i] = (k, s) := ⟨_, _, rfl⟩
   obtain ⟨hR, hsl, hat1, hat2⟩ := step h1 k s hp
   have hdom : inI (i : Int) Z.length = true := by simp [inI]; omega
   refine ifK (fun _ => ?_) (fun h2 => ab (hdom.symm.trans h2) (by decide))
   refine eI (mkS s) (aI hat1 ?_)
   refine ifK (fun _ => ?_) (fun h2 => ab (oF h2) (aL (show s.length <= 9223372036854775807 by omega)))
   refine ifK (fun _ => ?_) (fun h2 => ab (hdom.symm.trans h2) (by decide))
   refine eI k (aI hat2 ?_)
   refine ifK (fun hk => ?_) (fun hk => ?_)
   ·have hk : k = -1 := by simpa using hk
    rw [aX hk] at hR
    refine ifK (fun _ => ?_) (fun h2 => ab (hdom.symm.trans h2) (by decide))
    refine eI (mkS s) (aI hat1 ?_)
    obtain ⟨a', ha'⟩ : ∃ a', a' = IntKind.i64.wrap (a + ((0 : Nat) : Int)) := ⟨_, rfl⟩
    unfold wrN at hR
    simp only [show (List.length ([] : Bl)) = 0 from rfl, <- ha'] at hR
    have hsh : shortB (mkS s) = true := by unfold shortB; rw [zAr]; exact bL (by omega)
    have hTT : (T ++ ([] : List (Bl × Nat))).length <= 1000000000 := by have := hFl; simp only [aB] at this ⊢; simp at this ⊢ <;> omega
    by_cases he : pnE en a' (mkS s) ≠ 0
    ·rw [if_pos he] at hR
     refine eI (⟨0, some 1, en, T ++ ([] : List (Bl × Nat)), a', mkS s, true, [], []⟩ : RnX) (aI ⟨(by rw [ha'] <;> rfl), (show Tr.get _ 0 = some (AObj.cells [sq 1 (T ++ ([] : List (Bl × Nat))).length U, .int .i64 (en : Int)] _) from (by rw [aF] <;> rfl)), ⟨(show Tr.get _ 1 = some (AObj.cells ((T ++ ([] : List (Bl × Nat))).flatMap layT.g) _) from (by rw [aF] <;> rfl)), (by rw [aF]; exact hT0)⟩, hFT, hTT, hsh, (aX he).symm, fun h => by cases h⟩ ?_)
     refine ifK (fun _ => ?_) (fun g => ab (show pnE en a' (mkS s) = 0 by have g : (pnE en a' (mkS s) != 0) = false := g; simpa using g) he)
     refine aI rfl (zAg (rcq [] (d := 7) (d2 := 3) (lv := [(8, .slice none 0 0), (9, .int .i64 (pnE en a' (mkS s)))]) (bs := [(0, .cells [sq 1 T.length U, .int .i64 (en : Int)] 74), (1, .cells (T.flatMap layT.g) 130)]) (W := [0, 1]) (m := 2) (df := []) ⟨⟨_, rfl, zAf 8 rfl⟩, (sI rfl), tv⟩ ⟨⟨by decide, _, rfl, zBp _ 1 1 (by rfl) _ _⟩, bpo (zBa T), tv⟩ .nil) (fun f => ?_))
     exact hret _ ([] : List (Bl × Nat)) en f he hR.symm
    rw [if_neg he] at hR
    have he : pnE en a' (mkS s) = 0 := Decidable.not_not.1 he
    have eb : bs (mkS s) = s := by simp [bs, mkS]
    obtain ⟨⟨p1, p2⟩, p3, p4, p5⟩ := zCr he
    rw [eb] at p4 p5
    have hpos := ((zAu s).1 p4).1.pos
    obtain ⟨r, hr⟩ : ∃ r, packN (T ++ ([] : List (Bl × Nat))) a'.toNat s.length s 0 = r := ⟨_, rfl⟩
    have hne := zCn (T ++ ([] : List (Bl × Nat))) a'.toNat s.length s 0 hpos
    have hl1 := zAw (T ++ ([] : List (Bl × Nat))) a'.toNat s.length s 0
    have hl2 := zBd (T ++ ([] : List (Bl × Nat))) a'.toNat s.length s 0
    have hgd := zBv hFT a'.toNat s.length s 0
    rw [hr] at hne hl1 hl2 hgd hR
    obtain ⟨o, G⟩ := r
    cases o with
    | nil => exact ab rfl hne
    | cons v vs =>
     have hvl : vs.length + 1 <= s.length + 2 := hl1
     have hl2 : G.length <= vs.length + 1 := hl2
     have hAll : goodT (T ++ (([] : List (Bl × Nat)) ++ G)) := by rw [<- aN]; exact hgd
     cases G with
     | nil =>
      refine eI (⟨0, some 1, en, T ++ ([] : List (Bl × Nat)), a', mkS s, false, v :: vs, []⟩ : RnX) (aI ⟨(by rw [ha'] <;> rfl), (show Tr.get _ 0 = some (AObj.cells [sq 1 (T ++ ([] : List (Bl × Nat))).length U, .int .i64 (en : Int)] _) from (by rw [aF] <;> rfl)), ⟨(show Tr.get _ 1 = some (AObj.cells ((T ++ ([] : List (Bl × Nat))).flatMap layT.g) _) from (by rw [aF] <;> rfl)), (by rw [aF]; exact hT0)⟩, hFT, hTT, hsh, (aY (aL he)).symm, fun _ => by rw [eb]; exact hr⟩ ?_)
      refine eI ((v :: vs).map byV) (aI (zAi (l := v :: vs) h1s rfl) ?_)
      refine aI (zIn (o := v :: vs) (show vs.length + 1 <= _ by omega)) ?_
      refine ⟨(i + 1, v :: vs, [], a'.toNat + (vs.length + 1)), ⟨h1, (by have := hAll; rw [aF] at this; exact this), (by show List.length _ <= _; simp <;> omega), (by show List.length _ <= _; simp at hFl hl2 ⊢ <;> omega), (fun h => by cases h), (by show wrN a T ((Z.map pcZ).drop (i + 1)) _ _ _ = R; rw [aF] at hR; exact hR)⟩, (by show Z.length - (i + 1) < Z.length - i; omega), ?_⟩
      exact rcq [2, 3, 6] ⟨(sP rfl rfl), (sI rfl), (sL rfl rfl), (sL rfl rfl), (sL rfl rfl), zAb rfl (by rw [wrapN (by omega) (by omega)]; omega), tv⟩ ⟨⟨by decide, _, rfl, zEi 1 1 (by rfl) (by rw [aF]) _⟩, bpo (zBa T), bpo (zAk _), bpo (zAl _), bpo (zAa (v :: vs)), tv⟩ .nil
     | cons q G =>
      refine eI (⟨0, some 1, en, T ++ ([] : List (Bl × Nat)), a', mkS s, false, v :: vs, (q :: G)⟩ : RnX) (aI ⟨(by rw [ha'] <;> rfl), (show Tr.get _ 0 = some (AObj.cells [sq 1 (T ++ ([] : List (Bl × Nat))).length U, .int .i64 (en : Int)] _) from (by rw [aF] <;> rfl)), ⟨(show Tr.get _ 1 = some (AObj.cells ((T ++ ([] : List (Bl × Nat))).flatMap layT.g) _) from (by rw [aF] <;> rfl)), (by rw [aF]; exact hT0)⟩, hFT, hTT, hsh, (aY (aL he)).symm, fun _ => by rw [eb]; exact hr⟩ ?_)
      refine eI ((v :: vs).map byV) (aI (zAi (l := v :: vs) h1s rfl) ?_)
      refine aI (zIn (o := v :: vs) (show vs.length + 1 <= _ by omega)) ?_
      refine ⟨(i + 1, v :: vs, q :: G, a'.toNat + (vs.length + 1)), ⟨h1, hAll, (by show List.length _ <= _; simp <;> omega), (by show List.length _ <= _; simp at hFl hl2 ⊢ <;> omega), (fun h => by cases h), (by show wrN a T ((Z.map pcZ).drop (i + 1)) _ _ _ = R; exact hR)⟩, (by show Z.length - (i + 1) < Z.length - i; omega), ?_⟩
      exact rcq [2, 3, 6, 7] ⟨(sP rfl rfl), (sI rfl), (sL rfl rfl), (sL rfl rfl), (sL rfl rfl), zAb rfl (by rw [wrapN (by omega) (by omega)]; omega), tv⟩ ⟨⟨by decide, _, rfl, zEi 6 4 (by rfl) zEm _⟩, bpo (zAk _), bpo (zAl _), ⟨by decide, _, rfl, zAv zGm (zBa _)⟩, bpo (zAa (v :: vs)), tv⟩ .nil
   have hk : ¬ k = -1 := by simpa using hk
   rw [aY hk] at hR
   unfold wrN at hR
   cases s with
   | nil =>
    refine eI [] (aI (zAi (l := []) h1s rfl) ?_)
    refine ⟨(i + 1, [], [], en), ⟨h1, hFT, (by show List.length _ <= _; simp at hol ⊢ <;> omega), (by show List.length _ <= _; simp at hFl ⊢ <;> omega), hoF, (by show wrN a T ((Z.map pcZ).drop (i + 1)) _ _ _ = R; rw [aF] at hR; exact hR)⟩, (by show Z.length - (i + 1) < Z.length - i; omega), ?_⟩
    exact rcq [2, 3] ⟨(sP rfl rfl), (sI rfl), (sL rfl rfl), (sL rfl rfl), ⟨_, rfl, zAf 8 rfl⟩, zAb rfl (by rw [wrapN (by omega) (by omega)]; omega), tv⟩ ⟨⟨by decide, _, rfl, zBp _ 1 1 (by rfl) _ _⟩, bpo (zBa T), bpo (zAk _), bpo (zAl _), tv⟩ .nil
   | cons x s =>
    refine eI ((x :: s).map byV) (aI (zAi (l := x :: s) h1s rfl) ?_)
    refine aI (zIn (o := x :: s) (show s.length + 1 <= _ by have : s.length + 1 <= 65535 := hsl; omega)) ?_
    refine ⟨(i + 1, x :: s, [], en), ⟨h1, hFT, (by show List.length _ <= _; simp at hsl ⊢ <;> omega), (by show List.length _ <= _; simp at hFl ⊢ <;> omega), (fun h => by cases h), (by show wrN a T ((Z.map pcZ).drop (i + 1)) _ _ _ = R; exact hR)⟩, (by show Z.length - (i + 1) < Z.length - i; omega), ?_⟩
    exact rcq [2, 3, 5] ⟨(sP rfl rfl), (sI rfl), (sL rfl rfl), (sL rfl rfl), (sL rfl rfl), zAb rfl (by rw [wrapN (by omega) (by omega)]; omega), tv⟩ ⟨⟨by decide, _, rfl, zBp _ 1 1 (by rfl) _ _⟩, bpo (zBa T), bpo (zAk _), bpo (zAl _), bpo (zAa (x :: s)), tv⟩ .nil
  obtain ⟨e1, e2⟩ := hend (by have := oF h1; omega)
  subst e1
  refine aI rfl (zAg (rcq [2, 3] (d := 7) (d2 := 4) (lv := [(0, pt 0), (1, .int .i64 a), (11, sq 2 Z.length Z.length), (12, sq 3 Z.length U), (14, .slice none 0 0), (15, .int .i64 Z.length)]) (bs := [(0, .cells [sq 1 T.length U, .int .i64 (en : Int)] 74), (1, .cells (T.flatMap layT.g) 130), (2, .cells (Z.map zi) 3), (3, .cells (Z.map zs) 9)]) (W := [0, 1]) (m := 4) (df := []) ⟨(sP rfl rfl), (sI rfl), (sL rfl rfl), (sL rfl rfl), ⟨_, rfl, zAf 8 rfl⟩, (sI rfl), tv⟩ ⟨⟨by decide, _, rfl, zBp _ 1 1 (by rfl) _ _⟩, bpo (zBa T), bpo (zAk _), bpo (zAl _), tv⟩ .nil) (fun f => ?_))
  exact hex [] ([] : List (Bl × Nat)) en f e2 hoF (by show List.length _ <= _; have := hl; simp at hol ⊢ <;> omega)
 | cons u us =>
  have hol : us.length + 1 <= 70000 * i := hol
  cases F with
  | nil =>
   have hFT : goodT (T ++ ([] : List (Bl × Nat))) := hg
   refine zAm tbWq [2, 3, 5, 6] 2 _ none mixed _ _ _ ?_
   refine ifK (fun h1 => ?_) (fun h1 => ?_)
   ·have h1 : i < Z.length := by have := oT h1; omega
    obtain ⟨k, s, hp⟩ : ∃ k s, Z[i] = (k, s) := ⟨_, _, rfl⟩
    obtain ⟨hR, hsl, hat1, hat2⟩ := step h1 k s hp
    have hdom : inI (i : Int) Z.length = true := by simp [inI]; omega
    refine ifK (fun _ => ?_) (fun h2 => ab (hdom.symm.trans h2) (by decide))
    refine eI (mkS s) (aI hat1 ?_)
    refine ifK (fun _ => ?_) (fun h2 => ab (oF h2) (aL (show s.length <= 9223372036854775807 by omega)))
    refine ifK (fun _ => ?_) (fun h2 => ab (hdom.symm.trans h2) (by decide))
    refine eI k (aI hat2 ?_)
    refine ifK (fun hk => ?_) (fun hk => ?_)
    ·have hk : k = -1 := by simpa using hk
     rw [aX hk] at hR
     refine ifK (fun _ => ?_) (fun h2 => ab (hdom.symm.trans h2) (by decide))
     refine eI (mkS s) (aI hat1 ?_)
     obtain ⟨a', ha'⟩ : ∃ a', a' = IntKind.i64.wrap (a + (((us.length + 1) : Nat) : Int)) := ⟨_, rfl⟩
     unfold wrN at hR
     simp only [show (List.length (u :: us)) = (us.length + 1) from rfl, <- ha'] at hR
     have hsh : shortB (mkS s) = true := by unfold shortB; rw [zAr]; exact bL (by omega)
     have hTT : (T ++ ([] : List (Bl × Nat))).length <= 1000000000 := by have := hFl; simp only [aB] at this ⊢; simp at this ⊢ <;> omega
     by_cases he : pnE en a' (mkS s) ≠ 0
     ·rw [if_pos he] at hR
      refine eI (⟨0, some 1, en, T ++ ([] : List (Bl × Nat)), a', mkS s, true, [], []⟩ : RnX) (aI ⟨(by rw [ha'] <;> rfl), (show Tr.get _ 0 = some (AObj.cells [sq 1 (T ++ ([] : List (Bl × Nat))).length U, .int .i64 (en : Int)] _) from (by rw [aF] <;> rfl)), ⟨(show Tr.get _ 1 = some (AObj.cells ((T ++ ([] : List (Bl × Nat))).flatMap layT.g) _) from (by rw [aF] <;> rfl)), (by rw [aF]; exact hT0)⟩, hFT, hTT, hsh, (aX he).symm, fun h => by cases h⟩ ?_)
      refine ifK (fun _ => ?_) (fun g => ab (show pnE en a' (mkS s) = 0 by have g : (pnE en a' (mkS s) != 0) = false := g; simpa using g) he)
      refine aI rfl (zAg (rcq [] (d := 7) (d2 := 3) (lv := [(8, .slice none 0 0), (9, .int .i64 (pnE en a' (mkS s)))]) (bs := [(0, .cells [sq 1 T.length U, .int .i64 (en : Int)] 74), (1, .cells (T.flatMap layT.g) 130)]) (W := [0, 1]) (m := 2) (df := []) ⟨⟨_, rfl, zAf 8 rfl⟩, (sI rfl), tv⟩ ⟨⟨by decide, _, rfl, zBp _ 1 1 (by rfl) _ _⟩, bpo (zBa T), tv⟩ .nil) (fun f => ?_))
      exact hret _ ([] : List (Bl × Nat)) en f he hR.symm
     rw [if_neg he] at hR
     have he : pnE en a' (mkS s) = 0 := Decidable.not_not.1 he
     have eb : bs (mkS s) = s := by simp [bs, mkS]
     obtain ⟨⟨p1, p2⟩, p3, p4, p5⟩ := zCr he
     rw [eb] at p4 p5
     have hpos := ((zAu s).1 p4).1.pos
     obtain ⟨r, hr⟩ : ∃ r, packN (T ++ ([] : List (Bl × Nat))) a'.toNat s.length s 0 = r := ⟨_, rfl⟩
     have hne := zCn (T ++ ([] : List (Bl × Nat))) a'.toNat s.length s 0 hpos
     have hl1 := zAw (T ++ ([] : List (Bl × Nat))) a'.toNat s.length s 0
     have hl2 := zBd (T ++ ([] : List (Bl × Nat))) a'.toNat s.length s 0
     have hgd := zBv hFT a'.toNat s.length s 0
     rw [hr] at hne hl1 hl2 hgd hR
     obtain ⟨o, G⟩ := r
     cases o with
     | nil => exact ab rfl hne
     | cons v vs =>
      have hvl : vs.length + 1 <= s.length + 2 := hl1
      have hl2 : G.length <= vs.length + 1 := hl2
      have hAll : goodT (T ++ (([] : List (Bl × Nat)) ++ G)) := by rw [<- aN]; exact hgd
      cases G with
      | nil =>
       refine eI (⟨0, some 1, en, T ++ ([] : List (Bl × Nat)), a', mkS s, false, v :: vs, []⟩ : RnX) (aI ⟨(by rw [ha'] <;> rfl), (show Tr.get _ 0 = some (AObj.cells [sq 1 (T ++ ([] : List (Bl × Nat))).length U, .int .i64 (en : Int)] _) from (by rw [aF] <;> rfl)), ⟨(show Tr.get _ 1 = some (AObj.cells ((T ++ ([] : List (Bl × Nat))).flatMap layT.g) _) from (by rw [aF] <;> rfl)), (by rw [aF]; exact hT0)⟩, hFT, hTT, hsh, (aY (aL he)).symm, fun _ => by rw [eb]; exact hr⟩ ?_)
       refine eI ((v :: vs).map byV) (aI (zAi (l := v :: vs) h1s rfl) ?_)
       refine aI (zFk (us := us) (o := v :: vs) (by have := hl; omega) (show vs.length + 1 <= _ by omega) (Nat.succ_pos _)) ?_
       refine ⟨(i + 1, u :: (us ++ v :: vs), [], a'.toNat + (vs.length + 1)), ⟨h1, (by have := hAll; rw [aF] at this; exact this), (by show List.length _ <= _; simp <;> omega), (by show List.length _ <= _; simp at hFl hl2 ⊢ <;> omega), (fun h => by cases h), (by show wrN a T ((Z.map pcZ).drop (i + 1)) _ _ _ = R; rw [aF] at hR; exact hR)⟩, (by show Z.length - (i + 1) < Z.length - i; omega), ?_⟩
       exact rcq [2, 3, 7] ⟨(sP rfl rfl), (sI rfl), (sL rfl rfl), (sL rfl rfl), ⟨_, rfl, by show RV _ (.slice _ (us.length + 1 + (v :: vs).length) U) _; rw [zDp]; exact .sl _ _ _ _ _ rfl⟩, zAb rfl (by rw [wrapN (by omega) (by omega)]; omega), tv⟩ ⟨⟨by decide, _, rfl, zEi 1 1 (by rfl) (by rw [aF]) _⟩, bpo (zBa T), bpo (zAk _), bpo (zAl _), ⟨by decide, _, rfl, zFl u us (v :: vs)⟩, tv⟩ .nil
      | cons q G =>
       refine eI (⟨0, some 1, en, T ++ ([] : List (Bl × Nat)), a', mkS s, false, v :: vs, (q :: G)⟩ : RnX) (aI ⟨(by rw [ha'] <;> rfl), (show Tr.get _ 0 = some (AObj.cells [sq 1 (T ++ ([] : List (Bl × Nat))).length U, .int .i64 (en : Int)] _) from (by rw [aF] <;> rfl)), ⟨(show Tr.get _ 1 = some (AObj.cells ((T ++ ([] : List (Bl × Nat))).flatMap layT.g) _) from (by rw [aF] <;> rfl)), (by rw [aF]; exact hT0)⟩, hFT, hTT, hsh, (aY (aL he)).symm, fun _ => by rw [eb]; exact hr⟩ ?_)
       refine eI ((v :: vs).map byV) (aI (zAi (l := v :: vs) h1s rfl) ?_)
       refine aI (zFk (us := us) (o := v :: vs) (by have := hl; omega) (show vs.length + 1 <= _ by omega) (Nat.succ_pos _)) ?_
       refine ⟨(i + 1, u :: (us ++ v :: vs), q :: G, a'.toNat + (vs.length + 1)), ⟨h1, hAll, (by show List.length _ <= _; simp <;> omega), (by show List.length _ <= _; simp at hFl hl2 ⊢ <;> omega), (fun h => by cases h), (by show wrN a T ((Z.map pcZ).drop (i + 1)) _ _ _ = R; exact hR)⟩, (by show Z.length - (i + 1) < Z.length - i; omega), ?_⟩
       exact rcq [2, 3, 7, 8] ⟨(sP rfl rfl), (sI rfl), (sL rfl rfl), (sL rfl rfl), ⟨_, rfl, by show RV _ (.slice _ (us.length + 1 + (v :: vs).length) U) _; rw [zDp]; exact .sl _ _ _ _ _ rfl⟩, zAb rfl (by rw [wrapN (by omega) (by omega)]; omega), tv⟩ ⟨⟨by decide, _, rfl, zEi 7 4 (by rfl) zEm _⟩, bpo (zAk _), bpo (zAl _), ⟨by decide, _, rfl, zAv zGm (zBa _)⟩, ⟨by decide, _, rfl, zFl u us (v :: vs)⟩, tv⟩ .nil
    have hk : ¬ k = -1 := by simpa using hk
    rw [aY hk] at hR
    unfold wrN at hR
    cases s with
    | nil =>
     refine eI [] (aI (zAi (l := []) h1s rfl) ?_)
     refine ⟨(i + 1, u :: us, [], en), ⟨h1, hFT, (by show List.length _ <= _; simp at hol ⊢ <;> omega), (by show List.length _ <= _; simp at hFl ⊢ <;> omega), hoF, (by show wrN a T ((Z.map pcZ).drop (i + 1)) _ _ _ = R; rw [aF] at hR; exact hR)⟩, (by show Z.length - (i + 1) < Z.length - i; omega), ?_⟩
     exact rcq [2, 3, 4] ⟨(sP rfl rfl), (sI rfl), (sL rfl rfl), (sL rfl rfl), (sL rfl rfl), zAb rfl (by rw [wrapN (by omega) (by omega)]; omega), tv⟩ ⟨⟨by decide, _, rfl, zBp _ 1 1 (by rfl) _ _⟩, bpo (zBa T), bpo (zAk _), bpo (zAl _), bpo (zAa (u :: us)), tv⟩ .nil
    | cons x s =>
     refine eI ((x :: s).map byV) (aI (zAi (l := x :: s) h1s rfl) ?_)
     refine aI (zFk (us := us) (o := x :: s) (by have := hl; omega) (show s.length + 1 <= _ by have : s.length + 1 <= 65535 := hsl; omega) (Nat.succ_pos _)) ?_
     refine ⟨(i + 1, u :: (us ++ x :: s), [], en), ⟨h1, hFT, (by show List.length _ <= _; simp at hsl ⊢ <;> omega), (by show List.length _ <= _; simp at hFl ⊢ <;> omega), (fun h => by cases h), (by show wrN a T ((Z.map pcZ).drop (i + 1)) _ _ _ = R; exact hR)⟩, (by show Z.length - (i + 1) < Z.length - i; omega), ?_⟩
     exact rcq [2, 3, 6] ⟨(sP rfl rfl), (sI rfl), (sL rfl rfl), (sL rfl rfl), ⟨_, rfl, by show RV _ (.slice _ (us.length + 1 + (x :: s).length) U) _; rw [zDp]; exact .sl _ _ _ _ _ rfl⟩, zAb rfl (by rw [wrapN (by omega) (by omega)]; omega), tv⟩ ⟨⟨by decide, _, rfl, zBp _ 1 1 (by rfl) _ _⟩, bpo (zBa T), bpo (zAk _), bpo (zAl _), ⟨by decide, _, rfl, zFl u us (x :: s)⟩, tv⟩ .nil
   obtain ⟨e1, e2⟩ := hend (by have := oF h1; omega)
   subst e1
   refine aI rfl (zAg (rcq [2, 3, 4] (d := 7) (d2 := 4) (lv := [(0, pt 0), (1, .int .i64 a), (11, sq 2 Z.length Z.length), (12, sq 3 Z.length U), (14, sq 4 (us.length + 1) U), (15, .int .i64 Z.length)]) (bs := [(0, .cells [sq 1 T.length U, .int .i64 (en : Int)] 74), (1, .cells (T.flatMap layT.g) 130), (2, .cells (Z.map zi) 3), (3, .cells (Z.map zs) 9), (4, .cells ((u :: us).map byV) 5)]) (W := [0, 1]) (m := 5) (df := []) ⟨(sP rfl rfl), (sI rfl), (sL rfl rfl), (sL rfl rfl), (sL rfl rfl), (sI rfl), tv⟩ ⟨⟨by decide, _, rfl, zBp _ 1 1 (by rfl) _ _⟩, bpo (zBa T), bpo (zAk _), bpo (zAl _), bpo (zAa (u :: us)), tv⟩ .nil) (fun f => ?_))
   exact hex (u :: us) ([] : List (Bl × Nat)) en f e2 hoF (by show List.length _ <= _; have := hl; simp at hol ⊢ <;> omega)
  | cons p F =>
   have hFT : goodT (T ++ (p :: F)) := hg
   refine zAm tbWq [2, 3, 6, 7] 2 _ none mixed _ _ _ ?_
   refine ifK (fun h1 => ?_) (fun h1 => ?_)
   ·have h1 : i < Z.length := by have := oT h1; omega
    obtain ⟨k, s, hp⟩ : ∃ k s, Z[i] = (k, s) := ⟨_, _, rfl⟩
    obtain ⟨hR, hsl, hat1, hat2⟩ := step h1 k s hp
    have hdom : inI (i : Int) Z.length = true := by simp [inI]; omega
    refine ifK (fun _ => ?_) (fun h2 => ab (hdom.symm.trans h2) (by decide))
    refine eI (mkS s) (aI hat1 ?_)
    refine ifK (fun _ => ?_) (fun h2 => ab (oF h2) (aL (show s.length <= 9223372036854775807 by omega)))
    refine ifK (fun _ => ?_) (fun h2 => ab (hdom.symm.trans h2) (by decide))
    refine eI k (aI hat2 ?_)
    refine ifK (fun hk => ?_) (fun hk => ?_)
    ·have hk : k = -1 := by simpa using hk
     rw [aX hk] at hR
     refine ifK (fun _ => ?_) (fun h2 => ab (hdom.symm.trans h2) (by decide))
     refine eI (mkS s) (aI hat1 ?_)
     obtain ⟨a', ha'⟩ : ∃ a', a' = IntKind.i64.wrap (a + (((us.length + 1) : Nat) : Int)) := ⟨_, rfl⟩
     unfold wrN at hR
     simp only [show (List.length (u :: us)) = (us.length + 1) from rfl, <- ha'] at hR
     have hsh : shortB (mkS s) = true := by unfold shortB; rw [zAr]; exact bL (by omega)
     have hTT : (T ++ (p :: F)).length <= 1000000000 := by have := hFl; simp only [aB] at this ⊢; simp at this ⊢ <;> omega
     by_cases he : pnE en a' (mkS s) ≠ 0
     ·rw [if_pos he] at hR
      refine eI (⟨0, some 4, en, T ++ (p :: F), a', mkS s, true, [], []⟩ : RnX) (aI ⟨(by rw [ha'] <;> rfl), (show Tr.get _ 0 = some (AObj.cells [sq 4 (T ++ (p :: F)).length U, .int .i64 (en : Int)] _) from (by rfl)), ⟨(show Tr.get _ 4 = some (AObj.cells ((T ++ (p :: F)).flatMap layT.g) _) from (by rfl)), (by simp)⟩, hFT, hTT, hsh, (aX he).symm, fun h => by cases h⟩ ?_)
      refine ifK (fun _ => ?_) (fun g => ab (show pnE en a' (mkS s) = 0 by have g : (pnE en a' (mkS s) != 0) = false := g; simpa using g) he)
      refine aI rfl (zAg (rcq [4] (d := 7) (d2 := 3) (lv := [(8, .slice none 0 0), (9, .int .i64 (pnE en a' (mkS s)))]) (bs := [(0, .cells [sq 2 (T ++ p :: F).length U, .int .i64 (en : Int)] 74), (2, .cells ((T ++ p :: F).flatMap layT.g) 130)]) (W := [0, 1]) (m := 3) (df := []) ⟨⟨_, rfl, zAf 8 rfl⟩, (sI rfl), tv⟩ ⟨⟨by decide, _, rfl, zBp _ 4 2 (by rfl) _ _⟩, bpo (zBa (T ++ p :: F)), tv⟩ .nil) (fun f => ?_))
      exact hret _ (p :: F) en f he hR.symm
     rw [if_neg he] at hR
     have he : pnE en a' (mkS s) = 0 := Decidable.not_not.1 he
     have eb : bs (mkS s) = s := by simp [bs, mkS]
     obtain ⟨⟨p1, p2⟩, p3, p4, p5⟩ := zCr he
     rw [eb] at p4 p5
     have hpos := ((zAu s).1 p4).1.pos
     obtain ⟨r, hr⟩ : ∃ r, packN (T ++ (p :: F)) a'.toNat s.length s 0 = r := ⟨_, rfl⟩
     have hne := zCn (T ++ (p :: F)) a'.toNat s.length s 0 hpos
     have hl1 := zAw (T ++ (p :: F)) a'.toNat s.length s 0
     have hl2 := zBd (T ++ (p :: F)) a'.toNat s.length s 0
     have hgd := zBv hFT a'.toNat s.length s 0
     rw [hr] at hne hl1 hl2 hgd hR
     obtain ⟨o, G⟩ := r
     cases o with
     | nil => exact ab rfl hne
     | cons v vs =>
      have hvl : vs.length + 1 <= s.length + 2 := hl1
      have hl2 : G.length <= vs.length + 1 := hl2
      have hAll : goodT (T ++ ((p :: F) ++ G)) := by rw [<- aN]; exact hgd
      cases G with
      | nil =>
       refine eI (⟨0, some 4, en, T ++ (p :: F), a', mkS s, false, v :: vs, []⟩ : RnX) (aI ⟨(by rw [ha'] <;> rfl), (show Tr.get _ 0 = some (AObj.cells [sq 4 (T ++ (p :: F)).length U, .int .i64 (en : Int)] _) from (by rfl)), ⟨(show Tr.get _ 4 = some (AObj.cells ((T ++ (p :: F)).flatMap layT.g) _) from (by rfl)), (by simp)⟩, hFT, hTT, hsh, (aY (aL he)).symm, fun _ => by rw [eb]; exact hr⟩ ?_)
       refine eI ((v :: vs).map byV) (aI (zAi (l := v :: vs) h1s rfl) ?_)
       refine aI (zFk (us := us) (o := v :: vs) (by have := hl; omega) (show vs.length + 1 <= _ by omega) (Nat.succ_pos _)) ?_
       refine ⟨(i + 1, u :: (us ++ v :: vs), p :: F, a'.toNat + (vs.length + 1)), ⟨h1, (by have := hAll; rw [aF] at this; exact this), (by show List.length _ <= _; simp <;> omega), (by show List.length _ <= _; simp at hFl hl2 ⊢ <;> omega), (fun h => by cases h), (by show wrN a T ((Z.map pcZ).drop (i + 1)) _ _ _ = R; rw [aF] at hR; exact hR)⟩, (by show Z.length - (i + 1) < Z.length - i; omega), ?_⟩
       exact rcq [2, 3, 4, 8] ⟨(sP rfl rfl), (sI rfl), (sL rfl rfl), (sL rfl rfl), ⟨_, rfl, by show RV _ (.slice _ (us.length + 1 + (v :: vs).length) U) _; rw [zDp]; exact .sl _ _ _ _ _ rfl⟩, zAb rfl (by rw [wrapN (by omega) (by omega)]; omega), tv⟩ ⟨⟨by decide, _, rfl, zEi 4 4 (by rfl) rfl _⟩, bpo (zAk _), bpo (zAl _), bpo (zBa (T ++ p :: F)), ⟨by decide, _, rfl, zFl u us (v :: vs)⟩, tv⟩ .nil
      | cons q G =>
       refine eI (⟨0, some 4, en, T ++ (p :: F), a', mkS s, false, v :: vs, (q :: G)⟩ : RnX) (aI ⟨(by rw [ha'] <;> rfl), (show Tr.get _ 0 = some (AObj.cells [sq 4 (T ++ (p :: F)).length U, .int .i64 (en : Int)] _) from (by rfl)), ⟨(show Tr.get _ 4 = some (AObj.cells ((T ++ (p :: F)).flatMap layT.g) _) from (by rfl)), (by simp)⟩, hFT, hTT, hsh, (aY (aL he)).symm, fun _ => by rw [eb]; exact hr⟩ ?_)
       refine eI ((v :: vs).map byV) (aI (zAi (l := v :: vs) h1s rfl) ?_)
       refine aI (zFk (us := us) (o := v :: vs) (by have := hl; omega) (show vs.length + 1 <= _ by omega) (Nat.succ_pos _)) ?_
       refine ⟨(i + 1, u :: (us ++ v :: vs), p :: (F ++ q :: G), a'.toNat + (vs.length + 1)), ⟨h1, hAll, (by show List.length _ <= _; simp <;> omega), (by show List.length _ <= _; simp at hFl hl2 ⊢ <;> omega), (fun h => by cases h), (by show wrN a T ((Z.map pcZ).drop (i + 1)) _ _ _ = R; exact hR)⟩, (by show Z.length - (i + 1) < Z.length - i; omega), ?_⟩
       exact rcq [2, 3, 8, 9] ⟨(sP rfl rfl), (sI rfl), (sL rfl rfl), (sL rfl rfl), ⟨_, rfl, by show RV _ (.slice _ (us.length + 1 + (v :: vs).length) U) _; rw [zDp]; exact .sl _ _ _ _ _ rfl⟩, zAb rfl (by rw [wrapN (by omega) (by omega)]; omega), tv⟩ ⟨⟨by decide, _, rfl, zEi 8 4 (by rfl) zEm _⟩, bpo (zAk _), bpo (zAl _), ⟨by decide, _, rfl, zAv zGm (zBa _)⟩, ⟨by decide, _, rfl, zFl u us (v :: vs)⟩, tv⟩ .nil
    have hk : ¬ k = -1 := by simpa using hk
    rw [aY hk] at hR
    unfold wrN at hR
    cases s with
    | nil =>
     refine eI [] (aI (zAi (l := []) h1s rfl) ?_)
     refine ⟨(i + 1, u :: us, p :: F, en), ⟨h1, hFT, (by show List.length _ <= _; simp at hol ⊢ <;> omega), (by show List.length _ <= _; simp at hFl ⊢ <;> omega), hoF, (by show wrN a T ((Z.map pcZ).drop (i + 1)) _ _ _ = R; rw [aF] at hR; exact hR)⟩, (by show Z.length - (i + 1) < Z.length - i; omega), ?_⟩
     exact rcq [2, 3, 4, 5] ⟨(sP rfl rfl), (sI rfl), (sL rfl rfl), (sL rfl rfl), (sL rfl rfl), zAb rfl (by rw [wrapN (by omega) (by omega)]; omega), tv⟩ ⟨⟨by decide, _, rfl, zBp _ 4 4 (by rfl) _ _⟩, bpo (zAk _), bpo (zAl _), bpo (zBa (T ++ p :: F)), bpo (zAa (u :: us)), tv⟩ .nil
    | cons x s =>
     refine eI ((x :: s).map byV) (aI (zAi (l := x :: s) h1s rfl) ?_)
     refine aI (zFk (us := us) (o := x :: s) (by have := hl; omega) (show s.length + 1 <= _ by have : s.length + 1 <= 65535 := hsl; omega) (Nat.succ_pos _)) ?_
     refine ⟨(i + 1, u :: (us ++ x :: s), p :: F, en), ⟨h1, hFT, (by show List.length _ <= _; simp at hsl ⊢ <;> omega), (by show List.length _ <= _; simp at hFl ⊢ <;> omega), (fun h => by cases h), (by show wrN a T ((Z.map pcZ).drop (i + 1)) _ _ _ = R; exact hR)⟩, (by show Z.length - (i + 1) < Z.length - i; omega), ?_⟩
     exact rcq [2, 3, 4, 7] ⟨(sP rfl rfl), (sI rfl), (sL rfl rfl), (sL rfl rfl), ⟨_, rfl, by show RV _ (.slice _ (us.length + 1 + (x :: s).length) U) _; rw [zDp]; exact .sl _ _ _ _ _ rfl⟩, zAb rfl (by rw [wrapN (by omega) (by omega)]; omega), tv⟩ ⟨⟨by decide, _, rfl, zBp _ 4 4 (by rfl) _ _⟩, bpo (zAk _), bpo (zAl _), bpo (zBa (T ++ p :: F)), ⟨by decide, _, rfl, zFl u us (x :: s)⟩, tv⟩ .nil
   obtain ⟨e1, e2⟩ := hend (by have := oF h1; omega)
   subst e1
   refine aI rfl (zAg (rcq [2, 3, 4, 5] (d := 7) (d2 := 4) (lv := [(0, pt 0), (1, .int .i64 a), (11, sq 2 Z.length Z.length), (12, sq 3 Z.length U), (14, sq 5 (us.length + 1) U), (15, .int .i64 Z.length)]) (bs := [(0, .cells [sq 4 (T ++ p :: F).length U, .int .i64 (en : Int)] 74), (2, .cells (Z.map zi) 3), (3, .cells (Z.map zs) 9), (4, .cells ((T ++ p :: F).flatMap layT.g) 130), (5, .cells ((u :: us).map byV) 5)]) (W := [0, 1]) (m := 6) (df := []) ⟨(sP rfl rfl), (sI rfl), (sL rfl rfl), (sL rfl rfl), (sL rfl rfl), (sI rfl), tv⟩ ⟨⟨by decide, _, rfl, zBp _ 4 4 (by rfl) _ _⟩, bpo (zAk _), bpo (zAl _), bpo (zBa (T ++ p :: F)), bpo (zAa (u :: us)), tv⟩ .nil) (fun f => ?_))
   exact hex (u :: us) (p :: F) en f e2 hoF (by show List.length _ <= _; have := hl; simp at hol ⊢ <;> omega)
def rwnE (a : Int) (Z : List (Int × Bs)) (i : Nat) (out : Bl) (F : List (Bl × Nat)) (en : Nat) (f : Nat -> Option Value) : Fs := match out, F with
 | [], _ => ⟨slots 7 [(0, pt 0), (1, .int .i64 a), (11, sq 1 Z.length Z.length), (12, sq 2 Z.length U), (14, .slice none 0 0), (15, .int .i64 (i : Int))] f, heap 4 [(0, .cells [.slice none 0 0, .int .i64 (en : Int)] 74), (1, .cells (Z.map zi) 3), (2, .cells (Z.map zs) 9)], 3, [0], []⟩
 | u :: us, [] => ⟨slots 7 [(0, pt 0), (1, .int .i64 a), (11, sq 1 Z.length Z.length), (12, sq 2 Z.length U), (14, sq 3 (us.length + 1) U), (15, .int .i64 (i : Int))] f, heap 4 [(0, .cells [.slice none 0 0, .int .i64 (en : Int)] 74), (1, .cells (Z.map zi) 3), (2, .cells (Z.map zs) 9), (3, .cells ((u :: us).map byV) 5)], 4, [0], []⟩
 | u :: us, p :: F => ⟨slots 7 [(0, pt 0), (1, .int .i64 a), (11, sq 1 Z.length Z.length), (12, sq 2 Z.length U), (14, sq 4 (us.length + 1) U), (15, .int .i64 (i : Int))] f, heap 4 [(0, .cells [sq 3 (([] : List (Bl × Nat)) ++ p :: F).length U, .int .i64 (en : Int)] 74), (1, .cells (Z.map zi) 3), (2, .cells (Z.map zs) 9), (3, .cells ((([] : List (Bl × Nat)) ++ p :: F).flatMap layT.g) 130), (4, .cells ((u :: us).map byV) 5)], 5, [0], []⟩
def rwnS (a : Int) (Z : List (Int × Bs)) (x : Nat × Bl × List (Bl × Nat) × Nat) (f : Nat -> Option Value) : Fs := rwnE a Z x.1 x.2.1 x.2.2.1 x.2.2.2 f
def rwnR (a : Int) (F : List (Bl × Nat)) (en : Nat) (e : Int) (f : Nat -> Option Value) : Fs := match F with
 | [] => ⟨slots 7 [(8, .slice none 0 0), (9, .int .i64 e)] f, heap 3 [(0, .cells [.slice none 0 0, .int .i64 (en : Int)] 74)], 1, [0], []⟩
 | p :: F => ⟨slots 7 [(8, .slice none 0 0), (9, .int .i64 e)] f, heap 3 [(0, .cells [sq 1 (([] : List (Bl × Nat)) ++ p :: F).length U, .int .i64 (en : Int)] 74), (1, .cells ((([] : List (Bl × Nat)) ++ p :: F).flatMap layT.g) 130)], 2, [0], []⟩
theorem rwn_loop (a : Int) (Z : List (Int × Bs)) (en0 : Nat) (hps : ∀ p ∈ Z, p.2.length <= 65535) (hl : Z.length <= 1000) (R : Int × Bl × List (Bl × Nat) × Nat) (hR : wrN a ([] : List (Bl × Nat)) (Z.map pcZ) [] [] en0 = R) {s0 : Fs} {K : Ex -> Fs -> Prop}
  (h0 : ∃ f, RcM Try.prog 0 1 (4 + (Try.f78.ntmps - 4)) none s0 (rwnS a Z (0, [], [], en0) f))
  (hex : ∀ out F en f, R = (0, out, F, en) -> (out = [] -> F = []) -> out.length <= 100000000 -> K (.exit 0) (rwnE a Z Z.length out F en f))
  (hret : ∀ (e : Int) (F : List (Bl × Nat)) (en : Nat) f, e ≠ 0 -> R = (e, [], F, en) -> K .ret (rwnR a F en e f)) :
  LW Try.prog 0 1 (4 + (Try.f78.ntmps - 4)) none (loopAt Try.f78 0) s0 K := by
 have h1s : (Try.prog.types[5]).size = 1 := by kernel_rfl
 have h3s : (Try.prog.types[3]).size = 1 := by kernel_rfl
 have h9s : (Try.prog.types[9]).size = 1 := by kernel_rfl
 refine zAn (rwnS a Z ) (fun x => Z.length - x.1) (fun x => x.1 <= Z.length /\ goodT (([] : List (Bl × Nat)) ++ x.2.2.1) /\ x.2.1.length <= 70000 * x.1 /\ x.2.2.1.length <= 257 * x.1 /\ (x.2.1 = [] -> x.2.2.1 = []) /\ wrN a ([] : List (Bl × Nat)) ((Z.map pcZ).drop x.1) x.2.1 x.2.2.1 x.2.2.2 = R) (0, [], [], en0) ⟨aH _, ⟨List.nodup_nil, fun p hp => by cases hp⟩, aJ _, aJ _, fun _ => rfl, by rw [List.drop_zero]; exact hR⟩ h0 ?_
 rintro ⟨i, out, F, en⟩ f ⟨hi, hg, hol, hFl, hoF, hR⟩
 have hi : i <= Z.length := hi
 have hg : goodT (([] : List (Bl × Nat)) ++ F) := hg
 have hol : out.length <= 70000 * i := hol
 have hFl : F.length <= 257 * i := hFl
 have hoF : out = [] -> F = [] := hoF
 have hR : wrN a ([] : List (Bl × Nat)) ((Z.map pcZ).drop i) out F en = R := hR
 have hend : ¬ i < Z.length -> i = Z.length /\ R = (0, out, F, en) := fun h => by
  have e : i = Z.length := by omega
  rw [e, List.drop_of_length_le (by simp)] at hR
  exact ⟨e, hR.symm⟩
 have step : ∀ (h : i < Z.length) (k : Int) (s : Bs), Z[i] = (k, s) -> wrN a ([] : List (Bl × Nat)) ((s, decide (k = -1)) :: (Z.map pcZ).drop (i + 1)) out F en = R /\ s.length <= 65535 /\ (Z.map zs)[0 + ((i : Int)).toNat * (Try.prog.types[9]).size]? = some (.string (mkS s)) /\ (Z.map zi)[0 + ((i : Int)).toNat * (Try.prog.types[3]).size]? = some (.int .i64 k) := fun h k s e => by
  have hm : i < (Z.map pcZ).length := by rw [aT]; exact h
  refine ⟨?_, ?_, ?_, ?_⟩
  ·rw [<- hR, bD hm, List.getElem_map, e]; rfl
  ·have := hps _ (aV h)
   rw [e] at this; exact this
  ·rw [h9s, aO, aS, aR]; simp [h, e, zs, str, mkS]
  rw [h3s, aO, aS, aR]; simp [h, e, zi, intV]
 cases out with
 | nil =>
  have hF0 : F = [] := hoF rfl
  subst hF0
  have hFT : goodT (([] : List (Bl × Nat)) ++ ([] : List (Bl × Nat))) := hg
  refine zAm tbWq [1, 2, 3, 4] 1 _ none mixed _ _ _ ?_
  refine ifK (fun h1 => ?_) (fun h1 => ?_)
  ·have h1 : i < Z.length := by have := oT h1; omega
   obtain ⟨k, s, hp⟩ : ∃ k s, Z[i] = (k, s) := ⟨_, _, rfl⟩
   obtain ⟨hR, hsl, hat1, hat2⟩ := step h1 k s hp
   have hdom : inI (i : Int) Z.length = true := by simp [inI]; omega
   refine ifK (fun _ => ?_) (fun h2 => ab (hdom.symm.trans h2) (by decide))
   refine eI (mkS s) (aI hat1 ?_)
   refine ifK (fun _ => ?_) (fun h2 => ab (oF h2) (aL (show s.length <= 9223372036854775807 by omega)))
   refine ifK (fun _ => ?_) (fun h2 => ab (hdom.symm.trans h2) (by decide))
   refine eI k (aI hat2 ?_)
   refine ifK (fun hk => ?_) (fun hk => ?_)
   ·have hk : k = -1 := by simpa using hk
    rw [aX hk] at hR
    refine ifK (fun _ => ?_) (fun h2 => ab (hdom.symm.trans h2) (by decide))
    refine eI (mkS s) (aI hat1 ?_)
    obtain ⟨a', ha'⟩ : ∃ a', a' = IntKind.i64.wrap (a + ((0 : Nat) : Int)) := ⟨_, rfl⟩
    unfold wrN at hR
    simp only [show (List.length ([] : Bl)) = 0 from rfl, <- ha'] at hR
    have hsh : shortB (mkS s) = true := by unfold shortB; rw [zAr]; exact bL (by omega)
    have hTT : (([] : List (Bl × Nat)) ++ ([] : List (Bl × Nat))).length <= 1000000000 := by have := hFl; simp only [aB] at this ⊢; simp at this ⊢ <;> omega
    by_cases he : pnE en a' (mkS s) ≠ 0
    ·rw [if_pos he] at hR
     refine eI (⟨0, none, en, ([] : List (Bl × Nat)) ++ ([] : List (Bl × Nat)), a', mkS s, true, [], []⟩ : RnX) (aI ⟨(by rw [ha'] <;> rfl), rfl, rfl, hFT, hTT, hsh, (aX he).symm, fun h => by cases h⟩ ?_)
     refine ifK (fun _ => ?_) (fun g => ab (show pnE en a' (mkS s) = 0 by have g : (pnE en a' (mkS s) != 0) = false := g; simpa using g) he)
     refine aI rfl (zAg (rcq [] (d := 7) (d2 := 3) (lv := [(8, .slice none 0 0), (9, .int .i64 (pnE en a' (mkS s)))]) (bs := [(0, .cells [.slice none 0 0, .int .i64 (en : Int)] 74)]) (W := [0]) (m := 1) (df := []) ⟨⟨_, rfl, zAf 8 rfl⟩, (sI rfl), tv⟩ ⟨bpo rfl, tv⟩ .nil) (fun f => ?_))
     exact hret _ ([] : List (Bl × Nat)) en f he hR.symm
    rw [if_neg he] at hR
    have he : pnE en a' (mkS s) = 0 := Decidable.not_not.1 he
    have eb : bs (mkS s) = s := by simp [bs, mkS]
    obtain ⟨⟨p1, p2⟩, p3, p4, p5⟩ := zCr he
    rw [eb] at p4 p5
    have hpos := ((zAu s).1 p4).1.pos
    obtain ⟨r, hr⟩ : ∃ r, packN (([] : List (Bl × Nat)) ++ ([] : List (Bl × Nat))) a'.toNat s.length s 0 = r := ⟨_, rfl⟩
    have hne := zCn (([] : List (Bl × Nat)) ++ ([] : List (Bl × Nat))) a'.toNat s.length s 0 hpos
    have hl1 := zAw (([] : List (Bl × Nat)) ++ ([] : List (Bl × Nat))) a'.toNat s.length s 0
    have hl2 := zBd (([] : List (Bl × Nat)) ++ ([] : List (Bl × Nat))) a'.toNat s.length s 0
    have hgd := zBv hFT a'.toNat s.length s 0
    rw [hr] at hne hl1 hl2 hgd hR
    obtain ⟨o, G⟩ := r
    cases o with
    | nil => exact ab rfl hne
    | cons v vs =>
     have hvl : vs.length + 1 <= s.length + 2 := hl1
     have hl2 : G.length <= vs.length + 1 := hl2
     have hAll : goodT (([] : List (Bl × Nat)) ++ (([] : List (Bl × Nat)) ++ G)) := by rw [<- aN]; exact hgd
     cases G with
     | nil =>
      refine eI (⟨0, none, en, ([] : List (Bl × Nat)) ++ ([] : List (Bl × Nat)), a', mkS s, false, v :: vs, []⟩ : RnX) (aI ⟨(by rw [ha'] <;> rfl), rfl, rfl, hFT, hTT, hsh, (aY (aL he)).symm, fun _ => by rw [eb]; exact hr⟩ ?_)
      refine eI ((v :: vs).map byV) (aI (zAi (l := v :: vs) h1s rfl) ?_)
      refine aI (zIn (o := v :: vs) (show vs.length + 1 <= _ by omega)) ?_
      refine ⟨(i + 1, v :: vs, [], a'.toNat + (vs.length + 1)), ⟨h1, (by have := hAll; rw [aF] at this; exact this), (by show List.length _ <= _; simp <;> omega), (by show List.length _ <= _; simp at hFl hl2 ⊢ <;> omega), (fun h => by cases h), (by show wrN a ([] : List (Bl × Nat)) ((Z.map pcZ).drop (i + 1)) _ _ _ = R; rw [aF] at hR; exact hR)⟩, (by show Z.length - (i + 1) < Z.length - i; omega), ?_⟩
      exact rcq [1, 2, 5] ⟨(sP rfl rfl), (sI rfl), (sL rfl rfl), (sL rfl rfl), (sL rfl rfl), zAb rfl (by rw [wrapN (by omega) (by omega)]; omega), tv⟩ ⟨bpo rfl, bpo (zAk _), bpo (zAl _), bpo (zAa (v :: vs)), tv⟩ .nil
     | cons q G =>
      refine eI (⟨0, none, en, ([] : List (Bl × Nat)) ++ ([] : List (Bl × Nat)), a', mkS s, false, v :: vs, (q :: G)⟩ : RnX) (aI ⟨(by rw [ha'] <;> rfl), rfl, rfl, hFT, hTT, hsh, (aY (aL he)).symm, fun _ => by rw [eb]; exact hr⟩ ?_)
      refine eI ((v :: vs).map byV) (aI (zAi (l := v :: vs) h1s rfl) ?_)
      refine aI (zIn (o := v :: vs) (show vs.length + 1 <= _ by omega)) ?_
      refine ⟨(i + 1, v :: vs, q :: G, a'.toNat + (vs.length + 1)), ⟨h1, hAll, (by show List.length _ <= _; simp <;> omega), (by show List.length _ <= _; simp at hFl hl2 ⊢ <;> omega), (fun h => by cases h), (by show wrN a ([] : List (Bl × Nat)) ((Z.map pcZ).drop (i + 1)) _ _ _ = R; exact hR)⟩, (by show Z.length - (i + 1) < Z.length - i; omega), ?_⟩
      exact rcq [1, 2, 5, 6] ⟨(sP rfl rfl), (sI rfl), (sL rfl rfl), (sL rfl rfl), (sL rfl rfl), zAb rfl (by rw [wrapN (by omega) (by omega)]; omega), tv⟩ ⟨⟨by decide, _, rfl, zEi 5 3 (by rfl) zEm _⟩, bpo (zAk _), bpo (zAl _), ⟨by decide, _, rfl, zAv zGm (zBa _)⟩, bpo (zAa (v :: vs)), tv⟩ .nil
   have hk : ¬ k = -1 := by simpa using hk
   rw [aY hk] at hR
   unfold wrN at hR
   cases s with
   | nil =>
    refine eI [] (aI (zAi (l := []) h1s rfl) ?_)
    refine ⟨(i + 1, [], [], en), ⟨h1, hFT, (by show List.length _ <= _; simp at hol ⊢ <;> omega), (by show List.length _ <= _; simp at hFl ⊢ <;> omega), hoF, (by show wrN a ([] : List (Bl × Nat)) ((Z.map pcZ).drop (i + 1)) _ _ _ = R; rw [aF] at hR; exact hR)⟩, (by show Z.length - (i + 1) < Z.length - i; omega), ?_⟩
    exact rcq [1, 2] ⟨(sP rfl rfl), (sI rfl), (sL rfl rfl), (sL rfl rfl), ⟨_, rfl, zAf 8 rfl⟩, zAb rfl (by rw [wrapN (by omega) (by omega)]; omega), tv⟩ ⟨bpo rfl, bpo (zAk _), bpo (zAl _), tv⟩ .nil
   | cons x s =>
    refine eI ((x :: s).map byV) (aI (zAi (l := x :: s) h1s rfl) ?_)
    refine aI (zIn (o := x :: s) (show s.length + 1 <= _ by have : s.length + 1 <= 65535 := hsl; omega)) ?_
    refine ⟨(i + 1, x :: s, [], en), ⟨h1, hFT, (by show List.length _ <= _; simp at hsl ⊢ <;> omega), (by show List.length _ <= _; simp at hFl ⊢ <;> omega), (fun h => by cases h), (by show wrN a ([] : List (Bl × Nat)) ((Z.map pcZ).drop (i + 1)) _ _ _ = R; exact hR)⟩, (by show Z.length - (i + 1) < Z.length - i; omega), ?_⟩
    exact rcq [1, 2, 4] ⟨(sP rfl rfl), (sI rfl), (sL rfl rfl), (sL rfl rfl), (sL rfl rfl), zAb rfl (by rw [wrapN (by omega) (by omega)]; omega), tv⟩ ⟨bpo rfl, bpo (zAk _), bpo (zAl _), bpo (zAa (x :: s)), tv⟩ .nil
  obtain ⟨e1, e2⟩ := hend (by have := oF h1; omega)
  subst e1
  refine aI rfl (zAg (rcq [1, 2] (d := 7) (d2 := 4) (lv := [(0, pt 0), (1, .int .i64 a), (11, sq 1 Z.length Z.length), (12, sq 2 Z.length U), (14, .slice none 0 0), (15, .int .i64 Z.length)]) (bs := [(0, .cells [.slice none 0 0, .int .i64 (en : Int)] 74), (1, .cells (Z.map zi) 3), (2, .cells (Z.map zs) 9)]) (W := [0]) (m := 3) (df := []) ⟨(sP rfl rfl), (sI rfl), (sL rfl rfl), (sL rfl rfl), ⟨_, rfl, zAf 8 rfl⟩, (sI rfl), tv⟩ ⟨bpo rfl, bpo (zAk _), bpo (zAl _), tv⟩ .nil) (fun f => ?_))
  exact hex [] ([] : List (Bl × Nat)) en f e2 hoF (by show List.length _ <= _; have := hl; simp at hol ⊢ <;> omega)
 | cons u us =>
  have hol : us.length + 1 <= 70000 * i := hol
  cases F with
  | nil =>
   have hFT : goodT (([] : List (Bl × Nat)) ++ ([] : List (Bl × Nat))) := hg
   refine zAm tbWq [1, 2, 4, 5] 1 _ none mixed _ _ _ ?_
   refine ifK (fun h1 => ?_) (fun h1 => ?_)
   ·have h1 : i < Z.length := by have := oT h1; omega
    obtain ⟨k, s, hp⟩ : ∃ k s, Z[i] = (k, s) := ⟨_, _, rfl⟩
    obtain ⟨hR, hsl, hat1, hat2⟩ := step h1 k s hp
    have hdom : inI (i : Int) Z.length = true := by simp [inI]; omega
    refine ifK (fun _ => ?_) (fun h2 => ab (hdom.symm.trans h2) (by decide))
    refine eI (mkS s) (aI hat1 ?_)
    refine ifK (fun _ => ?_) (fun h2 => ab (oF h2) (aL (show s.length <= 9223372036854775807 by omega)))
    refine ifK (fun _ => ?_) (fun h2 => ab (hdom.symm.trans h2) (by decide))
    refine eI k (aI hat2 ?_)
    refine ifK (fun hk => ?_) (fun hk => ?_)
    ·have hk : k = -1 := by simpa using hk
     rw [aX hk] at hR
     refine ifK (fun _ => ?_) (fun h2 => ab (hdom.symm.trans h2) (by decide))
     refine eI (mkS s) (aI hat1 ?_)
     obtain ⟨a', ha'⟩ : ∃ a', a' = IntKind.i64.wrap (a + (((us.length + 1) : Nat) : Int)) := ⟨_, rfl⟩
     unfold wrN at hR
     simp only [show (List.length (u :: us)) = (us.length + 1) from rfl, <- ha'] at hR
     have hsh : shortB (mkS s) = true := by unfold shortB; rw [zAr]; exact bL (by omega)
     have hTT : (([] : List (Bl × Nat)) ++ ([] : List (Bl × Nat))).length <= 1000000000 := by have := hFl; simp only [aB] at this ⊢; simp at this ⊢ <;> omega
     by_cases he : pnE en a' (mkS s) ≠ 0
     ·rw [if_pos he] at hR
      refine eI (⟨0, none, en, ([] : List (Bl × Nat)) ++ ([] : List (Bl × Nat)), a', mkS s, true, [], []⟩ : RnX) (aI ⟨(by rw [ha'] <;> rfl), rfl, rfl, hFT, hTT, hsh, (aX he).symm, fun h => by cases h⟩ ?_)
      refine ifK (fun _ => ?_) (fun g => ab (show pnE en a' (mkS s) = 0 by have g : (pnE en a' (mkS s) != 0) = false := g; simpa using g) he)
      refine aI rfl (zAg (rcq [] (d := 7) (d2 := 3) (lv := [(8, .slice none 0 0), (9, .int .i64 (pnE en a' (mkS s)))]) (bs := [(0, .cells [.slice none 0 0, .int .i64 (en : Int)] 74)]) (W := [0]) (m := 1) (df := []) ⟨⟨_, rfl, zAf 8 rfl⟩, (sI rfl), tv⟩ ⟨bpo rfl, tv⟩ .nil) (fun f => ?_))
      exact hret _ ([] : List (Bl × Nat)) en f he hR.symm
     rw [if_neg he] at hR
     have he : pnE en a' (mkS s) = 0 := Decidable.not_not.1 he
     have eb : bs (mkS s) = s := by simp [bs, mkS]
     obtain ⟨⟨p1, p2⟩, p3, p4, p5⟩ := zCr he
     rw [eb] at p4 p5
     have hpos := ((zAu s).1 p4).1.pos
     obtain ⟨r, hr⟩ : ∃ r, packN (([] : List (Bl × Nat)) ++ ([] : List (Bl × Nat))) a'.toNat s.length s 0 = r := ⟨_, rfl⟩
     have hne := zCn (([] : List (Bl × Nat)) ++ ([] : List (Bl × Nat))) a'.toNat s.length s 0 hpos
     have hl1 := zAw (([] : List (Bl × Nat)) ++ ([] : List (Bl × Nat))) a'.toNat s.length s 0
     have hl2 := zBd (([] : List (Bl × Nat)) ++ ([] : List (Bl × Nat))) a'.toNat s.length s 0
     have hgd := zBv hFT a'.toNat s.length s 0
     rw [hr] at hne hl1 hl2 hgd hR
     obtain ⟨o, G⟩ := r
     cases o with
     | nil => exact ab rfl hne
     | cons v vs =>
      have hvl : vs.length + 1 <= s.length + 2 := hl1
      have hl2 : G.length <= vs.length + 1 := hl2
      have hAll : goodT (([] : List (Bl × Nat)) ++ (([] : List (Bl × Nat)) ++ G)) := by rw [<- aN]; exact hgd
      cases G with
      | nil =>
       refine eI (⟨0, none, en, ([] : List (Bl × Nat)) ++ ([] : List (Bl × Nat)), a', mkS s, false, v :: vs, []⟩ : RnX) (aI ⟨(by rw [ha'] <;> rfl), rfl, rfl, hFT, hTT, hsh, (aY (aL he)).symm, fun _ => by rw [eb]; exact hr⟩ ?_)
       refine eI ((v :: vs).map byV) (aI (zAi (l := v :: vs) h1s rfl) ?_)
       refine aI (zFk (us := us) (o := v :: vs) (by have := hl; omega) (show vs.length + 1 <= _ by omega) (Nat.succ_pos _)) ?_
       refine ⟨(i + 1, u :: (us ++ v :: vs), [], a'.toNat + (vs.length + 1)), ⟨h1, (by have := hAll; rw [aF] at this; exact this), (by show List.length _ <= _; simp <;> omega), (by show List.length _ <= _; simp at hFl hl2 ⊢ <;> omega), (fun h => by cases h), (by show wrN a ([] : List (Bl × Nat)) ((Z.map pcZ).drop (i + 1)) _ _ _ = R; rw [aF] at hR; exact hR)⟩, (by show Z.length - (i + 1) < Z.length - i; omega), ?_⟩
       exact rcq [1, 2, 6] ⟨(sP rfl rfl), (sI rfl), (sL rfl rfl), (sL rfl rfl), ⟨_, rfl, by show RV _ (.slice _ (us.length + 1 + (v :: vs).length) U) _; rw [zDp]; exact .sl _ _ _ _ _ rfl⟩, zAb rfl (by rw [wrapN (by omega) (by omega)]; omega), tv⟩ ⟨bpo rfl, bpo (zAk _), bpo (zAl _), ⟨by decide, _, rfl, zFl u us (v :: vs)⟩, tv⟩ .nil
      | cons q G =>
       refine eI (⟨0, none, en, ([] : List (Bl × Nat)) ++ ([] : List (Bl × Nat)), a', mkS s, false, v :: vs, (q :: G)⟩ : RnX) (aI ⟨(by rw [ha'] <;> rfl), rfl, rfl, hFT, hTT, hsh, (aY (aL he)).symm, fun _ => by rw [eb]; exact hr⟩ ?_)
       refine eI ((v :: vs).map byV) (aI (zAi (l := v :: vs) h1s rfl) ?_)
       refine aI (zFk (us := us) (o := v :: vs) (by have := hl; omega) (show vs.length + 1 <= _ by omega) (Nat.succ_pos _)) ?_
       refine ⟨(i + 1, u :: (us ++ v :: vs), q :: G, a'.toNat + (vs.length + 1)), ⟨h1, hAll, (by show List.length _ <= _; simp <;> omega), (by show List.length _ <= _; simp at hFl hl2 ⊢ <;> omega), (fun h => by cases h), (by show wrN a ([] : List (Bl × Nat)) ((Z.map pcZ).drop (i + 1)) _ _ _ = R; exact hR)⟩, (by show Z.length - (i + 1) < Z.length - i; omega), ?_⟩
       exact rcq [1, 2, 6, 7] ⟨(sP rfl rfl), (sI rfl), (sL rfl rfl), (sL rfl rfl), ⟨_, rfl, by show RV _ (.slice _ (us.length + 1 + (v :: vs).length) U) _; rw [zDp]; exact .sl _ _ _ _ _ rfl⟩, zAb rfl (by rw [wrapN (by omega) (by omega)]; omega), tv⟩ ⟨⟨by decide, _, rfl, zEi 6 3 (by rfl) zEm _⟩, bpo (zAk _), bpo (zAl _), ⟨by decide, _, rfl, zAv zGm (zBa _)⟩, ⟨by decide, _, rfl, zFl u us (v :: vs)⟩, tv⟩ .nil
    have hk : ¬ k = -1 := by simpa using hk
    rw [aY hk] at hR
    unfold wrN at hR
    cases s with
    | nil =>
     refine eI [] (aI (zAi (l := []) h1s rfl) ?_)
     refine ⟨(i + 1, u :: us, [], en), ⟨h1, hFT, (by show List.length _ <= _; simp at hol ⊢ <;> omega), (by show List.length _ <= _; simp at hFl ⊢ <;> omega), hoF, (by show wrN a ([] : List (Bl × Nat)) ((Z.map pcZ).drop (i + 1)) _ _ _ = R; rw [aF] at hR; exact hR)⟩, (by show Z.length - (i + 1) < Z.length - i; omega), ?_⟩
     exact rcq [1, 2, 3] ⟨(sP rfl rfl), (sI rfl), (sL rfl rfl), (sL rfl rfl), (sL rfl rfl), zAb rfl (by rw [wrapN (by omega) (by omega)]; omega), tv⟩ ⟨bpo rfl, bpo (zAk _), bpo (zAl _), bpo (zAa (u :: us)), tv⟩ .nil
    | cons x s =>
     refine eI ((x :: s).map byV) (aI (zAi (l := x :: s) h1s rfl) ?_)
     refine aI (zFk (us := us) (o := x :: s) (by have := hl; omega) (show s.length + 1 <= _ by have : s.length + 1 <= 65535 := hsl; omega) (Nat.succ_pos _)) ?_
     refine ⟨(i + 1, u :: (us ++ x :: s), [], en), ⟨h1, hFT, (by show List.length _ <= _; simp at hsl ⊢ <;> omega), (by show List.length _ <= _; simp at hFl ⊢ <;> omega), (fun h => by cases h), (by show wrN a ([] : List (Bl × Nat)) ((Z.map pcZ).drop (i + 1)) _ _ _ = R; exact hR)⟩, (by show Z.length - (i + 1) < Z.length - i; omega), ?_⟩
     exact rcq [1, 2, 5] ⟨(sP rfl rfl), (sI rfl), (sL rfl rfl), (sL rfl rfl), ⟨_, rfl, by show RV _ (.slice _ (us.length + 1 + (x :: s).length) U) _; rw [zDp]; exact .sl _ _ _ _ _ rfl⟩, zAb rfl (by rw [wrapN (by omega) (by omega)]; omega), tv⟩ ⟨bpo rfl, bpo (zAk _), bpo (zAl _), ⟨by decide, _, rfl, zFl u us (x :: s)⟩, tv⟩ .nil
   obtain ⟨e1, e2⟩ := hend (by have := oF h1; omega)
   subst e1
   refine aI rfl (zAg (rcq [1, 2, 3] (d := 7) (d2 := 4) (lv := [(0, pt 0), (1, .int .i64 a), (11, sq 1 Z.length Z.length), (12, sq 2 Z.length U), (14, sq 3 (us.length + 1) U), (15, .int .i64 Z.length)]) (bs := [(0, .cells [.slice none 0 0, .int .i64 (en : Int)] 74), (1, .cells (Z.map zi) 3), (2, .cells (Z.map zs) 9), (3, .cells ((u :: us).map byV) 5)]) (W := [0]) (m := 4) (df := []) ⟨(sP rfl rfl), (sI rfl), (sL rfl rfl), (sL rfl rfl), (sL rfl rfl), (sI rfl), tv⟩ ⟨bpo rfl, bpo (zAk _), bpo (zAl _), bpo (zAa (u :: us)), tv⟩ .nil) (fun f => ?_))
   exact hex (u :: us) ([] : List (Bl × Nat)) en f e2 hoF (by show List.length _ <= _; have := hl; simp at hol ⊢ <;> omega)
  | cons p F =>
   have hFT : goodT (([] : List (Bl × Nat)) ++ (p :: F)) := hg
   refine zAm tbWq [1, 2, 5, 6] 1 _ none mixed _ _ _ ?_
   refine ifK (fun h1 => ?_) (fun h1 => ?_)
   ·have h1 : i < Z.length := by have := oT h1; omega
    obtain ⟨k, s, hp⟩ : ∃ k s, Z[i] = (k, s) := ⟨_, _, rfl⟩
    obtain ⟨hR, hsl, hat1, hat2⟩ := step h1 k s hp
    have hdom : inI (i : Int) Z.length = true := by simp [inI]; omega
    refine ifK (fun _ => ?_) (fun h2 => ab (hdom.symm.trans h2) (by decide))
    refine eI (mkS s) (aI hat1 ?_)
    refine ifK (fun _ => ?_) (fun h2 => ab (oF h2) (aL (show s.length <= 9223372036854775807 by omega)))
    refine ifK (fun _ => ?_) (fun h2 => ab (hdom.symm.trans h2) (by decide))
    refine eI k (aI hat2 ?_)
    refine ifK (fun hk => ?_) (fun hk => ?_)
    ·have hk : k = -1 := by simpa using hk
     rw [aX hk] at hR
     refine ifK (fun _ => ?_) (fun h2 => ab (hdom.symm.trans h2) (by decide))
     refine eI (mkS s) (aI hat1 ?_)
     obtain ⟨a', ha'⟩ : ∃ a', a' = IntKind.i64.wrap (a + (((us.length + 1) : Nat) : Int)) := ⟨_, rfl⟩
     unfold wrN at hR
     simp only [show (List.length (u :: us)) = (us.length + 1) from rfl, <- ha'] at hR
     have hsh : shortB (mkS s) = true := by unfold shortB; rw [zAr]; exact bL (by omega)
     have hTT : (([] : List (Bl × Nat)) ++ (p :: F)).length <= 1000000000 := by have := hFl; simp only [aB] at this ⊢; simp at this ⊢ <;> omega
     by_cases he : pnE en a' (mkS s) ≠ 0
     ·rw [if_pos he] at hR
      refine eI (⟨0, some 3, en, ([] : List (Bl × Nat)) ++ (p :: F), a', mkS s, true, [], []⟩ : RnX) (aI ⟨(by rw [ha'] <;> rfl), (show Tr.get _ 0 = some (AObj.cells [sq 3 (([] : List (Bl × Nat)) ++ (p :: F)).length U, .int .i64 (en : Int)] _) from (by rfl)), ⟨(show Tr.get _ 3 = some (AObj.cells ((([] : List (Bl × Nat)) ++ (p :: F)).flatMap layT.g) _) from (by rfl)), (by simp)⟩, hFT, hTT, hsh, (aX he).symm, fun h => by cases h⟩ ?_)
      refine ifK (fun _ => ?_) (fun g => ab (show pnE en a' (mkS s) = 0 by have g : (pnE en a' (mkS s) != 0) = false := g; simpa using g) he)
      refine aI rfl (zAg (rcq [3] (d := 7) (d2 := 3) (lv := [(8, .slice none 0 0), (9, .int .i64 (pnE en a' (mkS s)))]) (bs := [(0, .cells [sq 1 (([] : List (Bl × Nat)) ++ p :: F).length U, .int .i64 (en : Int)] 74), (1, .cells ((([] : List (Bl × Nat)) ++ p :: F).flatMap layT.g) 130)]) (W := [0]) (m := 2) (df := []) ⟨⟨_, rfl, zAf 8 rfl⟩, (sI rfl), tv⟩ ⟨⟨by decide, _, rfl, zBp _ 3 1 (by rfl) _ _⟩, bpo (zBa (([] : List (Bl × Nat)) ++ p :: F)), tv⟩ .nil) (fun f => ?_))
      exact hret _ (p :: F) en f he hR.symm
     rw [if_neg he] at hR
     have he : pnE en a' (mkS s) = 0 := Decidable.not_not.1 he
     have eb : bs (mkS s) = s := by simp [bs, mkS]
     obtain ⟨⟨p1, p2⟩, p3, p4, p5⟩ := zCr he
     rw [eb] at p4 p5
     have hpos := ((zAu s).1 p4).1.pos
     obtain ⟨r, hr⟩ : ∃ r, packN (([] : List (Bl × Nat)) ++ (p :: F)) a'.toNat s.length s 0 = r := ⟨_, rfl⟩
     have hne := zCn (([] : List (Bl × Nat)) ++ (p :: F)) a'.toNat s.length s 0 hpos
     have hl1 := zAw (([] : List (Bl × Nat)) ++ (p :: F)) a'.toNat s.length s 0
     have hl2 := zBd (([] : List (Bl × Nat)) ++ (p :: F)) a'.toNat s.length s 0
     have hgd := zBv hFT a'.toNat s.length s 0
     rw [hr] at hne hl1 hl2 hgd hR
     obtain ⟨o, G⟩ := r
     cases o with
     | nil => exact ab rfl hne
     | cons v vs =>
      have hvl : vs.length + 1 <= s.length + 2 := hl1
      have hl2 : G.length <= vs.length + 1 := hl2
      have hAll : goodT (([] : List (Bl × Nat)) ++ ((p :: F) ++ G)) := by rw [<- aN]; exact hgd
      cases G with
      | nil =>
       refine eI (⟨0, some 3, en, ([] : List (Bl × Nat)) ++ (p :: F), a', mkS s, false, v :: vs, []⟩ : RnX) (aI ⟨(by rw [ha'] <;> rfl), (show Tr.get _ 0 = some (AObj.cells [sq 3 (([] : List (Bl × Nat)) ++ (p :: F)).length U, .int .i64 (en : Int)] _) from (by rfl)), ⟨(show Tr.get _ 3 = some (AObj.cells ((([] : List (Bl × Nat)) ++ (p :: F)).flatMap layT.g) _) from (by rfl)), (by simp)⟩, hFT, hTT, hsh, (aY (aL he)).symm, fun _ => by rw [eb]; exact hr⟩ ?_)
       refine eI ((v :: vs).map byV) (aI (zAi (l := v :: vs) h1s rfl) ?_)
       refine aI (zFk (us := us) (o := v :: vs) (by have := hl; omega) (show vs.length + 1 <= _ by omega) (Nat.succ_pos _)) ?_
       refine ⟨(i + 1, u :: (us ++ v :: vs), p :: F, a'.toNat + (vs.length + 1)), ⟨h1, (by have := hAll; rw [aF] at this; exact this), (by show List.length _ <= _; simp <;> omega), (by show List.length _ <= _; simp at hFl hl2 ⊢ <;> omega), (fun h => by cases h), (by show wrN a ([] : List (Bl × Nat)) ((Z.map pcZ).drop (i + 1)) _ _ _ = R; rw [aF] at hR; exact hR)⟩, (by show Z.length - (i + 1) < Z.length - i; omega), ?_⟩
       exact rcq [1, 2, 3, 7] ⟨(sP rfl rfl), (sI rfl), (sL rfl rfl), (sL rfl rfl), ⟨_, rfl, by show RV _ (.slice _ (us.length + 1 + (v :: vs).length) U) _; rw [zDp]; exact .sl _ _ _ _ _ rfl⟩, zAb rfl (by rw [wrapN (by omega) (by omega)]; omega), tv⟩ ⟨⟨by decide, _, rfl, zEi 3 3 (by rfl) rfl _⟩, bpo (zAk _), bpo (zAl _), bpo (zBa (([] : List (Bl × Nat)) ++ p :: F)), ⟨by decide, _, rfl, zFl u us (v :: vs)⟩, tv⟩ .nil
      | cons q G =>
       refine eI (⟨0, some 3, en, ([] : List (Bl × Nat)) ++ (p :: F), a', mkS s, false, v :: vs, (q :: G)⟩ : RnX) (aI ⟨(by rw [ha'] <;> rfl), (show Tr.get _ 0 = some (AObj.cells [sq 3 (([] : List (Bl × Nat)) ++ (p :: F)).length U, .int .i64 (en : Int)] _) from (by rfl)), ⟨(show Tr.get _ 3 = some (AObj.cells ((([] : List (Bl × Nat)) ++ (p :: F)).flatMap layT.g) _) from (by rfl)), (by simp)⟩, hFT, hTT, hsh, (aY (aL he)).symm, fun _ => by rw [eb]; exact hr⟩ ?_)
       refine eI ((v :: vs).map byV) (aI (zAi (l := v :: vs) h1s rfl) ?_)
       refine aI (zFk (us := us) (o := v :: vs) (by have := hl; omega) (show vs.length + 1 <= _ by omega) (Nat.succ_pos _)) ?_
       refine ⟨(i + 1, u :: (us ++ v :: vs), p :: (F ++ q :: G), a'.toNat + (vs.length + 1)), ⟨h1, hAll, (by show List.length _ <= _; simp <;> omega), (by show List.length _ <= _; simp at hFl hl2 ⊢ <;> omega), (fun h => by cases h), (by show wrN a ([] : List (Bl × Nat)) ((Z.map pcZ).drop (i + 1)) _ _ _ = R; exact hR)⟩, (by show Z.length - (i + 1) < Z.length - i; omega), ?_⟩
       exact rcq [1, 2, 7, 8] ⟨(sP rfl rfl), (sI rfl), (sL rfl rfl), (sL rfl rfl), ⟨_, rfl, by show RV _ (.slice _ (us.length + 1 + (v :: vs).length) U) _; rw [zDp]; exact .sl _ _ _ _ _ rfl⟩, zAb rfl (by rw [wrapN (by omega) (by omega)]; omega), tv⟩ ⟨⟨by decide, _, rfl, zEi 7 3 (by rfl) zEm _⟩, bpo (zAk _), bpo (zAl _), ⟨by decide, _, rfl, zAv zGm (zBa _)⟩, ⟨by decide, _, rfl, zFl u us (v :: vs)⟩, tv⟩ .nil
    have hk : ¬ k = -1 := by simpa using hk
    rw [aY hk] at hR
    unfold wrN at hR
    cases s with
    | nil =>
     refine eI [] (aI (zAi (l := []) h1s rfl) ?_)
     refine ⟨(i + 1, u :: us, p :: F, en), ⟨h1, hFT, (by show List.length _ <= _; simp at hol ⊢ <;> omega), (by show List.length _ <= _; simp at hFl ⊢ <;> omega), hoF, (by show wrN a ([] : List (Bl × Nat)) ((Z.map pcZ).drop (i + 1)) _ _ _ = R; rw [aF] at hR; exact hR)⟩, (by show Z.length - (i + 1) < Z.length - i; omega), ?_⟩
     exact rcq [1, 2, 3, 4] ⟨(sP rfl rfl), (sI rfl), (sL rfl rfl), (sL rfl rfl), (sL rfl rfl), zAb rfl (by rw [wrapN (by omega) (by omega)]; omega), tv⟩ ⟨⟨by decide, _, rfl, zBp _ 3 3 (by rfl) _ _⟩, bpo (zAk _), bpo (zAl _), bpo (zBa (([] : List (Bl × Nat)) ++ p :: F)), bpo (zAa (u :: us)), tv⟩ .nil
    | cons x s =>
     refine eI ((x :: s).map byV) (aI (zAi (l := x :: s) h1s rfl) ?_)
     refine aI (zFk (us := us) (o := x :: s) (by have := hl; omega) (show s.length + 1 <= _ by have : s.length + 1 <= 65535 := hsl; omega) (Nat.succ_pos _)) ?_
     refine ⟨(i + 1, u :: (us ++ x :: s), p :: F, en), ⟨h1, hFT, (by show List.length _ <= _; simp at hsl ⊢ <;> omega), (by show List.length _ <= _; simp at hFl ⊢ <;> omega), (fun h => by cases h), (by show wrN a ([] : List (Bl × Nat)) ((Z.map pcZ).drop (i + 1)) _ _ _ = R; exact hR)⟩, (by show Z.length - (i + 1) < Z.length - i; omega), ?_⟩
     exact rcq [1, 2, 3, 6] ⟨(sP rfl rfl), (sI rfl), (sL rfl rfl), (sL rfl rfl), ⟨_, rfl, by show RV _ (.slice _ (us.length + 1 + (x :: s).length) U) _; rw [zDp]; exact .sl _ _ _ _ _ rfl⟩, zAb rfl (by rw [wrapN (by omega) (by omega)]; omega), tv⟩ ⟨⟨by decide, _, rfl, zBp _ 3 3 (by rfl) _ _⟩, bpo (zAk _), bpo (zAl _), bpo (zBa (([] : List (Bl × Nat)) ++ p :: F)), ⟨by decide, _, rfl, zFl u us (x :: s)⟩, tv⟩ .nil
   obtain ⟨e1, e2⟩ := hend (by have := oF h1; omega)
   subst e1
   refine aI rfl (zAg (rcq [1, 2, 3, 4] (d := 7) (d2 := 4) (lv := [(0, pt 0), (1, .int .i64 a), (11, sq 1 Z.length Z.length), (12, sq 2 Z.length U), (14, sq 4 (us.length + 1) U), (15, .int .i64 Z.length)]) (bs := [(0, .cells [sq 3 (([] : List (Bl × Nat)) ++ p :: F).length U, .int .i64 (en : Int)] 74), (1, .cells (Z.map zi) 3), (2, .cells (Z.map zs) 9), (3, .cells ((([] : List (Bl × Nat)) ++ p :: F).flatMap layT.g) 130), (4, .cells ((u :: us).map byV) 5)]) (W := [0]) (m := 5) (df := []) ⟨(sP rfl rfl), (sI rfl), (sL rfl rfl), (sL rfl rfl), (sL rfl rfl), (sI rfl), tv⟩ ⟨⟨by decide, _, rfl, zBp _ 3 3 (by rfl) _ _⟩, bpo (zAk _), bpo (zAl _), bpo (zBa (([] : List (Bl × Nat)) ++ p :: F)), bpo (zAa (u :: us)), tv⟩ .nil) (fun f => ?_))
   exact hex (u :: us) (p :: F) en f e2 hoF (by show List.length _ <= _; have := hl; simp at hol ⊢ <;> omega)
theorem FnS.wr {f : FuncId} {args : List Value} {H H' : Tr AObj} {n0 n : Nat} {v : Value} {wr : List Nat} (W : List Nat) (h : FnS Try.prog 0 f args H n0 (.ret v H' n wr)) : FnS Try.prog 0 f args H n0 (.ret v H' n (W ++ wr)) := fun E w args' h1 h2 h3 h4 h5 =>
 (h E w args' h1 h2 h3 h4 h5).mono fun e w' ⟨E', v', q1, q2, q3, q4⟩ => ⟨E', v', q1, q2, q3, q4.sub (fun k hk _ => List.mem_append.2 (.inr hk))⟩
def ovN (b : Nat) (o : Bl) : Value := match o with
 | [] => .slice none 0 0
 | _ :: l => sq b (l.length + 1) U
theorem zVj (en : Nat) : pnE en (-1) (mkS [0]) = 2 := by
 unfold pnE
 have h : (labels (bs (mkS [0]))).2 = 0 := (zAu _).2 ⟨.root, by decide⟩
 rw [if_neg (by simpa using h), if_pos (.inl (by decide))]
theorem zKp {t : Int} {l : Bs} (h : (checkD t l != 0) = false) : checkD t l = 0 := by simpa using h
theorem write_fn (a t : Int) (s : ByteArray) (en : Nat) (T : List (Bl × Nat)) (ck : Nat) (hT : goodT T) (hs : shortB s = true) (e : Int) (o : Bl) (F : List (Bl × Nat)) (en' : Nat) (hD : wrD en T a t (bs s) = (e, o, F, en')) :
  ∃ r, FnS Try.prog 0 73 [pt 0, .int .i64 a, .int .i64 t, .string s] (heap 2 [(0, .cells [.map (some 1), .int .i64 (en : Int)] 98), (1, .map (encT T) ck)]) 2 r /\
   ∃ H m wr b, r = .ret (.tuple #[ovN b o, .int .i64 e]) H m wr /\ (o ≠ [] -> 2 <= b /\ b < JJ /\ H.get b = some (.cells (o.map byV) 5)) /\ H.get 0 = some (.cells [.map (some 1), .int .i64 (en' : Int)] 98) /\ H.get 1 = some (.map (encT (T ++ F)) (ck + F.length)) := by
 refine zBh mixed tbWr [1] Try.func73 (c := bodyOf Try.f73) (by kernel_rfl) ?_
 have hroot : pnR en T (-1) (mkS [0]) true [] [] := ⟨by rw [zVj]; rfl, fun h => by cases h⟩
 refine eI (⟨0, 1, en, T, ck, -1, mkS [0], true, [], []⟩ : PkX) (aI ⟨rfl, rfl, (show Tr.get _ 1 = some (AObj.map (encT T) ck) from rfl), hT, rfl, hroot⟩ ?_)
 refine aI hs ?_
 unfold wrD at hD
 refine ifK (fun g => ?_) (fun g => ?_)
 ·have g : checkD t (bs s) ≠ 0 := by simpa using g
  rw [if_pos g] at hD
  simp only [Prod.mk.injEq] at hD
  obtain ⟨rfl, rfl, rfl, rfl⟩ := hD
  exact ⟨_, _, _, 0, rfl, fun h => ab rfl h, rfl, by rw [aF]; rfl⟩
 have g := zKp g
 rw [if_neg (by simpa using g)] at hD
 obtain ⟨k1, k2, k3, k4⟩ := zLk g
 have hps : ∀ p ∈ pcsD t (bs s), p.1.length <= 65535 := fun p hp => by
  obtain ⟨i, hi, e1⟩ := List.mem_iff_getElem.1 hp
  have := zTr _ i hi
  rw [e1] at this; omega
 refine aI hs ?_
 refine ifK (fun g1 => ?_) (fun g1 => ?_)
 ·obtain ⟨ps, hp⟩ := Option.isSome_iff_exists.1 g1
  have hpcs : pcsD t (bs s) = outP t (bs s) := by unfold pcsD; rw [hp]
  rw [hpcs] at hD hps k3
  refine ifK (fun g2 => ?_) (fun g2 => ?_)
  ·refine wr_loop a (outP t (bs s)) U T ck en hT hps (by omega) _ hD (rcq [2] ⟨(sP rfl rfl), (sI rfl), ⟨_, rfl, zAf 8 rfl⟩, (sL rfl rfl), (sI rfl), (sI rfl), tv⟩ ⟨⟨by decide, _, rfl, zBb 1 1 (by exact rfl) en⟩, ⟨by decide, _, rfl, (by show RO Try.prog _ (.map (encT T) ck) (.map (encT (T ++ [])) (ck + 0)); rw [aF]; exact RO.map _ _ _ (zAh _))⟩, bpo (zAc _ zDk _), tv⟩ .nil) ?_ ?_
   ·intro out G en2 f hR hl
    simp only [Prod.mk.injEq] at hR
    obtain ⟨rfl, rfl, rfl, rfl⟩ := hR
    cases o with
    | nil => exact ⟨_, _, _, 0, rfl, fun h => ab rfl h, rfl, rfl⟩
    | cons u us => exact ⟨_, _, _, 3, rfl, fun _ => ⟨by decide, by decide, rfl⟩, rfl, rfl⟩
   intro e2 G en2 f he hR
   simp only [Prod.mk.injEq] at hR
   obtain ⟨rfl, rfl, rfl, rfl⟩ := hR
   exact ⟨_, _, _, 0, rfl, fun h => ab rfl h, rfl, rfl⟩
  exfalso
  obtain ⟨o', _, q⟩ := zOi hp (zCm g).2.2.2
  rw [q] at g2; cases g2
 have hp : ptsT t = none := by simpa using g1
 have hpcs : pcsD t (bs s) = [(bs s, false)] := by unfold pcsD; rw [hp]
 rw [hpcs] at hD hps k3
 refine wr_loop a [(bs s, false)] 1 T ck en hT hps (by simp) _ hD (rcq [2] ⟨(sP rfl rfl), (sI rfl), ⟨_, rfl, zAf 8 rfl⟩, (sL rfl rfl), (sI rfl), (sI rfl), tv⟩ ⟨⟨by decide, _, rfl, zBb 1 1 (by exact rfl) en⟩, ⟨by decide, _, rfl, (by show RO Try.prog _ (.map (encT T) ck) (.map (encT (T ++ [])) (ck + 0)); rw [aF]; exact RO.map _ _ _ (zAh _))⟩, ⟨by decide, _, rfl, zAv (by rw [str_mk s]; rfl) rfl⟩, tv⟩ .nil) ?_ ?_
 ·intro out G en2 f hR hl
  simp only [Prod.mk.injEq] at hR
  obtain ⟨rfl, rfl, rfl, rfl⟩ := hR
  cases o with
  | nil => exact ⟨_, _, _, 0, rfl, fun h => ab rfl h, rfl, rfl⟩
  | cons u us => exact ⟨_, _, _, 3, rfl, fun _ => ⟨by decide, by decide, rfl⟩, rfl, rfl⟩
 intro e2 G en2 f he hR
 simp only [Prod.mk.injEq] at hR
 obtain ⟨rfl, rfl, rfl, rfl⟩ := hR
 exact ⟨_, _, _, 0, rfl, fun h => ab rfl h, rfl, rfl⟩
structure WrX where
 pb : Nat
 mb : Nat
 en : Nat
 T : List (Bl × Nat)
 ck : Nat
 a : Int
 t : Int
 s : ByteArray
 e : Int
 o : Bl
 F : List (Bl × Nat)
 en' : Nat
def packO (pb mb : Nat) (T : List (Bl × Nat)) (ck : Nat) (e : Int) (o : Bl) (F : List (Bl × Nat)) (en' : Nat) (H : Tr AObj) (n : Nat) : Res := match o with
 | [] => .ret (.tuple #[.slice none 0 0, .int .i64 e]) ((H.set pb (some (.cells [.map (some mb), .int .i64 (en' : Int)] 98))).set mb (some (.map (encT (T ++ F)) (ck + F.length)))) n [pb, mb]
 | u :: us => .ret (.tuple #[sq n (us.length + 1) U, .int .i64 e]) (((H.set pb (some (.cells [.map (some mb), .int .i64 (en' : Int)] 98))).set mb (some (.map (encT (T ++ F)) (ck + F.length)))).set n (some (.cells ((u :: us).map byV) 5))) (n + 1) [pb, mb]
theorem zJg {f : FuncId} {args args0 : List Value} {H H0 H' : Tr AObj} {n m pb mb b en ck en' : Nat} {wr : List Nat} {T F : List (Bl × Nat)} {e : Int} {o : Bl} (hF : FnS Try.prog 0 f args0 H0 2 (.ret (.tuple #[ovN b o, .int .i64 e]) H' m wr))
  (hA : [pb, mb].Nodup) (hcb : CallB Try.prog [pb, mb] H H0) (harg : RL (caR [pb, mb]) args args0) (h2 : H.get pb = some (.cells [.map (some mb), .int .i64 (en : Int)] 98)) (h3 : H.get mb = some (.map (encT T) ck)) (w0 : 0 ∈ wr) (w1 : 1 ∈ wr)
  (gb : o ≠ [] -> 2 <= b /\ b < JJ /\ H'.get b = some (.cells (o.map byV) 5)) (g2 : H'.get 0 = some (.cells [.map (some 1), .int .i64 (en' : Int)] 98)) (g3 : H'.get 1 = some (.map (encT (T ++ F)) (ck + F.length))) (hw0 : ∀ j, j < 2 -> ∀ o, H0.get j = some o -> ¬ o.isWin) :
  CallOK Try.prog 0 f args H n (packO pb mb T ck e o F en' H n) := by
 have hw : ∀ j ∈ [pb, mb], ∃ o, H.get j = some o /\ ¬ o.isWin := fun j hj => by
  simp only [aK, List.not_mem_nil, or_false] at hj
  rcases hj with rfl | rfl
  ·exact ⟨_, h2, fun h => h⟩
  exact ⟨_, h3, fun h => h⟩
 have hw0' : ∀ k o, H0.get k = some o -> k < [pb, mb].length -> ¬ o.isWin := fun k o h1 h2 => hw0 k h2 o h1
 have hbx : ∀ B : List Nat, RO Try.prog (tau [pb, mb] B n) (.cells [.map (some 1), .int .i64 (en' : Int)] 98) (.cells [.map (some mb), .int .i64 (en' : Int)] 98) := fun B => zBb 1 mb (zBt rfl) en'
 cases o with
 | nil =>
  refine zAt [pb, mb] [] [(pb, some (.cells [.map (some mb), .int .i64 (en' : Int)] 98)), (mb, some (.map (encT (T ++ F)) (ck + F.length)))] hF hA hcb harg hw0' hw List.nodup_nil (fun x hx => by cases hx) (.tuple _ _ (.cons _ _ _ _ (.snil _ _) (.cons _ _ _ _ (.int _ _) .nil)))
   (fun p hp => by simp at hp; rcases hp with rfl | rfl <;> simp) (fun k j e1 _ => .inl (by have := List.mem_of_getElem? e1; simp at this; rcases this with rfl | rfl <;> simp)) (fun j ob hm => ?_)
  rcases aK.1 hm with e | hm
  ·cases e; exact ⟨0, _, zBt rfl, g2, hbx _, fun _ => w0⟩
  rcases aK.1 hm with e | hm
  ·cases e; exact ⟨1, _, zBt rfl, g3, RO.map _ _ _ (zAh _), fun _ => w1⟩
  cases hm
 | cons u us =>
  obtain ⟨b1, b2, b3⟩ := gb (aZ _ _)
  refine zAt [pb, mb] [b] [(pb, some (.cells [.map (some mb), .int .i64 (en' : Int)] 98)), (mb, some (.map (encT (T ++ F)) (ck + F.length))), (n, some (.cells ((u :: us).map byV) 5))] hF hA hcb harg hw0' hw (by simp) (fun x hx => by simp at hx; subst hx; exact ⟨b1, b2, by rw [b3]; simp⟩) (.tuple _ _ (.cons _ _ _ _ (.sl _ _ _ _ _ (zGe (A := [pb, mb]) b1)) (.cons _ _ _ _ (.int _ _) .nil)))
   (fun p hp => by simp at hp; rcases hp with rfl | rfl | rfl <;> simp) (fun k j e1 _ => .inl (by have := List.mem_of_getElem? e1; simp at this; rcases this with rfl | rfl <;> simp)) (fun j ob hm => ?_)
  rcases aK.1 hm with e | hm
  ·cases e; exact ⟨0, _, zBt rfl, g2, hbx _, fun _ => w0⟩
  rcases aK.1 hm with e | hm
  ·cases e; exact ⟨1, _, zBt rfl, g3, RO.map _ _ _ (zAh _), fun _ => w1⟩
  rcases aK.1 hm with e | hm
  ·cases e; exact ⟨b, _, zGe (A := [pb, mb]) b1, b3, .same (zAa _), fun h => by have h : b < 2 := h; omega⟩
  cases hm
theorem packB {pb mb en : Nat} {T : List (Bl × Nat)} {ck : Nat} {H : Tr AObj} (h2 : H.get pb = some (.cells [.map (some mb), .int .i64 (en : Int)] 98)) (h3 : H.get mb = some (.map (encT T) ck)) :
  [pb, mb].Nodup /\ CallB Try.prog [pb, mb] H (heap 2 [(0, .cells [.map (some 1), .int .i64 (en : Int)] 98), (1, .map (encT T) ck)]) /\ ∀ j, j < 2 -> ∀ o, (heap 2 [(0, AObj.cells [.map (some 1), .int .i64 (en : Int)] 98), (1, .map (encT T) ck)]).get j = some o -> ¬ o.isWin := by
 have hne : pb ≠ mb := fun e => by subst e; rw [h2] at h3; cases h3
 refine ⟨by simp [hne], zCl ⟨⟨pb, _, rfl, h2, zBb mb 1 rfl en⟩, ⟨mb, _, rfl, h3, RO.map _ _ _ (zAh _)⟩, tv⟩, fun j hj ob ho => ?_⟩
 match j, hj, ho with
 | 0, _, ho => have ho : some (AObj.cells _ _) = some ob := ho; cases ho; exact fun h => h
 | 1, _, ho => have ho : some (AObj.map _ _) = some ob := ho; cases ho; exact fun h => h
theorem zQw {pb mb mb' en en' : Nat} {T T' : List (Bl × Nat)} {ck ck' : Nat} {H : Tr AObj} (h2 : H.get pb = some (.cells [.map (some mb), .int .i64 (en : Int)] 98)) (h3 : H.get mb = some (.map (encT T) ck)) (k2 : H.get pb = some (.cells [.map (some mb'), .int .i64 (en' : Int)] 98)) (k3 : H.get mb' = some (.map (encT T') ck')) : mb = mb' /\ en = en' /\ T = T' /\ ck = ck' := by
 rw [h2] at k2
 simp only [aP, AObj.cells.injEq, aQ, Value.map.injEq, Value.int.injEq, true_and, and_true] at k2
 obtain ⟨rfl, e⟩ := k2
 rw [h3] at k3
 simp only [aP, AObj.map.injEq] at k3
 exact ⟨rfl, by omega, zOb k3.1, k3.2⟩
theorem zQv {pb mb : Nat} {T : List (Bl × Nat)} {ck : Nat} {e : Int} {o : Bl} {F : List (Bl × Nat)} {en' : Nat} {H : Tr AObj} {n : Nat} {K : Res -> Prop} (h : frcN pb fun pb => frcN mb fun mb => K (packO pb mb T ck e o F en' H n)) : K (packO pb mb T ck e o F en' H n) := by rw [zCe, zCe] at h; exact h
noncomputable def ct_write : Ct Try.prog 0 :=
 CtR.ct { f := 73, X := WrX,
          pre := fun x as0 H _ => as0 = [.pointer (some ⟨x.pb, 0, none⟩), .int .i64 x.a, .int .i64 x.t, .string x.s] /\ H.get x.pb = some (.cells [.map (some x.mb), .int .i64 (x.en : Int)] 98) /\ H.get x.mb = some (.map (encT x.T) x.ck) /\ goodT x.T /\ shortB x.s = true /\ wrD x.en x.T x.a x.t (bs x.s) = (x.e, x.o, x.F, x.en'),
          out := fun x H n => packO x.pb x.mb x.T x.ck x.e x.o x.F x.en' H n,
          tr := fun x H n K => frcN x.pb fun pb => frcN x.mb fun mb => K (packO pb mb x.T x.ck x.e x.o x.F x.en' H n),
          trOk := fun x H n K h => zQv h,
          ok := fun x as0 H n ⟨h1, h2, h3, h4, h5, h6⟩ => by
           subst h1
           obtain ⟨pb, mb, en, T, ck, a, t, s, e, o, F, en'⟩ := x
           obtain ⟨q1, q2, q3⟩ := packB h2 h3
           obtain ⟨r, hF, H', m, wr, b, rfl, g1, g2, g3⟩ := write_fn a t s en T ck h4 h5 e o F en' h6
           have := zJg (n := n) (hF.wr [0, 1]) q1 q2 (.cons _ _ _ _ (.ptr _ _ _ rfl) (.cons _ _ _ _ (.int _ _) (.cons _ _ _ _ (.int _ _) (.cons _ _ _ _ (.string _) .nil)))) h2 h3 (by simp) (by simp) g1 g2 g3 q3
           cases o <;> exact this,
          uniq := fun x y as0 H n ⟨h1, h2, h3, _, _, h6⟩ ⟨k1, k2, k3, _, _, k6⟩ => by
           obtain ⟨pb, mb, en, T, ck, a, t, s, e, o, F, en1⟩ := x
           obtain ⟨pb', mb', en', T', ck', a', t', s', e', o', F', en1'⟩ := y
           rw [h1] at k1
           simp only [aQ, Value.pointer.injEq, aP, Addr.mk.injEq, and_true, Value.int.injEq, true_and, Value.string.injEq] at k1
           obtain ⟨rfl, rfl, rfl, rfl⟩ := k1
           obtain ⟨rfl, rfl, rfl, rfl⟩ := zQw h2 h3 k2 k3
           have := h6.symm.trans k6
           simp only [Prod.mk.injEq] at this
           obtain ⟨rfl, rfl, rfl, rfl⟩ := this
           rfl }
theorem rwo_fn (a t : Int) (s : ByteArray) (en : Nat) (T : List (Bl × Nat)) (hT : goodT T) (hT0 : T ≠ []) (hTl : T.length <= 900000000) (hs : (bs s).length <= 100000000) (e : Int) (o : Bl) (F : List (Bl × Nat)) (en' : Nat) (hD : wrD en T a t (bs s) = (e, o, F, en')) :
  ∃ r, FnS Try.prog 0 78 [pt 0, .int .i64 a, .int .i64 t, .string s] (heap 2 [(0, .cells [sq 1 T.length U, .int .i64 (en : Int)] 74), (1, .cells (T.flatMap layT.g) 130)]) 2 r /\
   ∃ H m wr b l, r = .ret (.tuple #[ovN b o, .int .i64 e]) H m wr /\ (o ≠ [] -> 2 <= b /\ b < JJ /\ H.get b = some (.cells (o.map byV) 5)) /\ (F = [] /\ l = 1 \/ F ≠ [] /\ 2 <= l /\ l < JJ /\ (o ≠ [] -> l ≠ b)) /\ H.get 0 = some (.cells [sq l (T ++ F).length U, .int .i64 (en' : Int)] 74) /\ H.get l = some (.cells ((T ++ F).flatMap layT.g) 130) := by
 refine zBh mixed tbWq [1] Try.func78 (c := bodyOf Try.f78) (by kernel_rfl) ?_
 refine aI (size8 hs) ?_
 unfold wrD at hD
 refine ifK (fun g => ?_) (fun g => ?_)
 ·have g : checkD t (bs s) ≠ 0 := by simpa using g
  rw [if_pos g] at hD
  simp only [Prod.mk.injEq] at hD
  obtain ⟨rfl, rfl, rfl, rfl⟩ := hD
  exact ⟨_, _, _, 0, 1, rfl, fun h => ab rfl h, .inl ⟨rfl, rfl⟩, by rw [aF]; rfl, by rw [aF]; rfl⟩
 have g := zKp g
 rw [if_neg (by simpa using g)] at hD
 obtain ⟨k1, k2, k3, k4⟩ := zLk g
 obtain ⟨z1, z2⟩ := pcsR_eq (zCm g).2.2.2
 obtain ⟨Z, hZ⟩ : ∃ Z, Z = (formL t).zip (rpO t (bs s)) := ⟨_, rfl⟩
 have hZp : Z.map pcZ = pcsD t (bs s) := by rw [hZ]; exact z1
 have hz : Z.length = (formL t).length := by rw [hZ, List.length_zip]; omega
 have y1 : Z.map zi = (formL t).map intV := by rw [hZ, show zi = intV ∘ Prod.fst from rfl, <- List.map_map, List.map_fst_zip (by omega)]
 have y2 : Z.map zs = (rpO t (bs s)).map str := by rw [hZ, show zs = str ∘ Prod.snd from rfl, <- List.map_map, List.map_snd_zip (by omega)]
 have hps : ∀ p ∈ Z, p.2.length <= 65535 := fun p hp => by
  have hm : pcZ p ∈ pcsD t (bs s) := by rw [<- hZp]; exact List.mem_map_of_mem hp
  obtain ⟨i, hi, e1⟩ := List.mem_iff_getElem.1 hm
  have := zTr _ i hi
  rw [e1] at this
  have this : p.2.length <= _ := this
  omega
 have hl : Z.length <= 1000 := by have := congrArg List.length hZp; rw [aT] at this; omega
 rw [<- hZp] at hD
 refine aI (size8 hs) ?_
 refine ifK (fun g1 => ?_) (fun g1 => ab (zCm g).2.2.2 (by rw [fits_no g1]; decide))
 refine rwo_loop a Z T en hT hT0 hTl hps hl _ hD (rcq [2, 3] ⟨(sP rfl rfl), (sI rfl), ⟨_, rfl, ?_⟩, ⟨_, rfl, ?_⟩, ⟨_, rfl, zAf 8 rfl⟩, (sI rfl), tv⟩ ⟨⟨by decide, _, rfl, zBp _ 1 1 (by rfl) _ _⟩, bpo (zBa T), ⟨by decide, _, rfl, zAv y1.symm (zAk _)⟩, ⟨by decide, _, rfl, zAv y2.symm (zAl _)⟩, tv⟩ .nil) ?_ ?_
 ·rw [hz]; exact .sl _ _ _ _ _ rfl
 ·rw [hz, z2]; exact .sl _ _ _ _ _ rfl
 ·intro out G en2 f hR hoF hl2
  simp only [Prod.mk.injEq] at hR
  obtain ⟨rfl, rfl, rfl, rfl⟩ := hR
  cases o with
  | nil =>
   have hF0 := hoF rfl
   subst hF0
   exact ⟨_, _, _, 0, 1, rfl, fun h => ab rfl h, .inl ⟨rfl, rfl⟩, by rw [aF]; rfl, by rw [aF]; rfl⟩
  | cons u us =>
   cases F with
   | nil => exact ⟨_, _, _, 4, 1, rfl, fun _ => ⟨by decide, by decide, rfl⟩, .inl ⟨rfl, rfl⟩, by rw [aF]; rfl, by rw [aF]; rfl⟩
   | cons p F => exact ⟨_, _, _, 5, 4, rfl, fun _ => ⟨by decide, by decide, rfl⟩, .inr ⟨aZ _ _, by decide, by decide, fun _ => by decide⟩, rfl, rfl⟩
 intro e2 G en2 f he hR
 simp only [Prod.mk.injEq] at hR
 obtain ⟨rfl, rfl, rfl, rfl⟩ := hR
 cases F with
 | nil => exact ⟨_, _, _, 0, 1, rfl, fun h => ab rfl h, .inl ⟨rfl, rfl⟩, by rw [aF]; rfl, by rw [aF]; rfl⟩
 | cons p F => exact ⟨_, _, _, 0, 2, rfl, fun h => ab rfl h, .inr ⟨aZ _ _, by decide, by decide, fun h => ab rfl h⟩, rfl, rfl⟩
theorem rwn_fn (a t : Int) (s : ByteArray) (en : Nat) (hs : (bs s).length <= 100000000) (e : Int) (o : Bl) (F : List (Bl × Nat)) (en' : Nat) (hD : wrD en [] a t (bs s) = (e, o, F, en')) :
  ∃ r, FnS Try.prog 0 78 [pt 0, .int .i64 a, .int .i64 t, .string s] (heap 1 [(0, .cells [.slice none 0 0, .int .i64 (en : Int)] 74)]) 1 r /\
   ∃ H m wr b l, r = .ret (.tuple #[ovN b o, .int .i64 e]) H m wr /\ (o ≠ [] -> 1 <= b /\ b < JJ /\ H.get b = some (.cells (o.map byV) 5)) /\ (F = [] /\ H.get 0 = some (.cells [.slice none 0 0, .int .i64 (en' : Int)] 74) \/ F ≠ [] /\ (1 <= l /\ l < JJ /\ (o ≠ [] -> l ≠ b)) /\ H.get 0 = some (.cells [sq l F.length U, .int .i64 (en' : Int)] 74) /\ H.get l = some (.cells (F.flatMap layT.g) 130)) := by
 refine zBh mixed tbWq [1] Try.func78 (c := bodyOf Try.f78) (by kernel_rfl) ?_
 refine aI (size8 hs) ?_
 unfold wrD at hD
 refine ifK (fun g => ?_) (fun g => ?_)
 ·have g : checkD t (bs s) ≠ 0 := by simpa using g
  rw [if_pos g] at hD
  simp only [Prod.mk.injEq] at hD
  obtain ⟨rfl, rfl, rfl, rfl⟩ := hD
  exact ⟨_, _, _, 0, 0, rfl, fun h => ab rfl h, .inl ⟨rfl, rfl⟩⟩
 have g := zKp g
 rw [if_neg (by simpa using g)] at hD
 obtain ⟨k1, k2, k3, k4⟩ := zLk g
 obtain ⟨z1, z2⟩ := pcsR_eq (zCm g).2.2.2
 obtain ⟨Z, hZ⟩ : ∃ Z, Z = (formL t).zip (rpO t (bs s)) := ⟨_, rfl⟩
 have hZp : Z.map pcZ = pcsD t (bs s) := by rw [hZ]; exact z1
 have hz : Z.length = (formL t).length := by rw [hZ, List.length_zip]; omega
 have y1 : Z.map zi = (formL t).map intV := by rw [hZ, show zi = intV ∘ Prod.fst from rfl, <- List.map_map, List.map_fst_zip (by omega)]
 have y2 : Z.map zs = (rpO t (bs s)).map str := by rw [hZ, show zs = str ∘ Prod.snd from rfl, <- List.map_map, List.map_snd_zip (by omega)]
 have hps : ∀ p ∈ Z, p.2.length <= 65535 := fun p hp => by
  have hm : pcZ p ∈ pcsD t (bs s) := by rw [<- hZp]; exact List.mem_map_of_mem hp
  obtain ⟨i, hi, e1⟩ := List.mem_iff_getElem.1 hm
  have := zTr _ i hi
  rw [e1] at this
  have this : p.2.length <= _ := this
  omega
 have hl : Z.length <= 1000 := by have := congrArg List.length hZp; rw [aT] at this; omega
 rw [<- hZp] at hD
 refine aI (size8 hs) ?_
 refine ifK (fun g1 => ?_) (fun g1 => ab (zCm g).2.2.2 (by rw [fits_no g1]; decide))
 refine rwn_loop a Z en hps hl _ hD (rcq [1, 2] ⟨(sP rfl rfl), (sI rfl), ⟨_, rfl, ?_⟩, ⟨_, rfl, ?_⟩, ⟨_, rfl, zAf 8 rfl⟩, (sI rfl), tv⟩ ⟨bpo rfl, ⟨by decide, _, rfl, zAv y1.symm (zAk _)⟩, ⟨by decide, _, rfl, zAv y2.symm (zAl _)⟩, tv⟩ .nil) ?_ ?_
 ·rw [hz]; exact .sl _ _ _ _ _ rfl
 ·rw [hz, z2]; exact .sl _ _ _ _ _ rfl
 ·intro out G en2 f hR hoF hl2
  simp only [Prod.mk.injEq] at hR
  obtain ⟨rfl, rfl, rfl, rfl⟩ := hR
  cases o with
  | nil =>
   have hF0 := hoF rfl
   subst hF0
   exact ⟨_, _, _, 0, 0, rfl, fun h => ab rfl h, .inl ⟨rfl, rfl⟩⟩
  | cons u us =>
   cases F with
   | nil => exact ⟨_, _, _, 3, 0, rfl, fun _ => ⟨by decide, by decide, rfl⟩, .inl ⟨rfl, rfl⟩⟩
   | cons p F => exact ⟨_, _, _, 4, 3, rfl, fun _ => ⟨by decide, by decide, rfl⟩, .inr ⟨aZ _ _, ⟨by decide, by decide, fun _ => by decide⟩, rfl, rfl⟩⟩
 intro e2 G en2 f he hR
 simp only [Prod.mk.injEq] at hR
 obtain ⟨rfl, rfl, rfl, rfl⟩ := hR
 cases F with
 | nil => exact ⟨_, _, _, 0, 0, rfl, fun h => ab rfl h, .inl ⟨rfl, rfl⟩⟩
 | cons p F => exact ⟨_, _, _, 0, 1, rfl, fun h => ab rfl h, .inr ⟨aZ _ _, ⟨by decide, by decide, fun h => ab rfl h⟩, rfl, rfl⟩⟩
def rwO (pb : Nat) (v : Option Nat) (T : List (Bl × Nat)) (e : Int) (o : Bl) (F : List (Bl × Nat)) (en' : Nat) (H : Tr AObj) (n : Nat) : Res := match v, F, o with
 | none, [], [] => .ret (.tuple #[.slice none 0 0, .int .i64 e]) (setL H [(pb, some (.cells [.slice none 0 0, .int .i64 (en' : Int)] 74))]) n [pb]
 | none, [], u :: us => .ret (.tuple #[sq n (us.length + 1) U, .int .i64 e]) (setL H [(pb, some (.cells [.slice none 0 0, .int .i64 (en' : Int)] 74)), (n, some (.cells ((u :: us).map byV) 5))]) (n + 1) [pb]
 | none, p :: F, [] => .ret (.tuple #[.slice none 0 0, .int .i64 e]) (setL H [(pb, some (.cells [sq n (T ++ p :: F).length U, .int .i64 (en' : Int)] 74)), (n, some (.cells ((T ++ p :: F).flatMap layT.g) 130))]) (n + 1) [pb]
 | none, p :: F, u :: us => .ret (.tuple #[sq n (us.length + 1) U, .int .i64 e]) (setL H [(pb, some (.cells [.slice (some ⟨n + 1, 0, none⟩) (T ++ p :: F).length U, .int .i64 (en' : Int)] 74)), (n, some (.cells ((u :: us).map byV) 5)), (n + 1, some (.cells ((T ++ p :: F).flatMap layT.g) 130))]) (n + 2) [pb]
 | some b, [], [] => .ret (.tuple #[.slice none 0 0, .int .i64 e]) (setL H [(pb, some (.cells [sq b T.length U, .int .i64 (en' : Int)] 74))]) n [pb, b]
 | some b, [], u :: us => .ret (.tuple #[sq n (us.length + 1) U, .int .i64 e]) (setL H [(pb, some (.cells [sq b T.length U, .int .i64 (en' : Int)] 74)), (n, some (.cells ((u :: us).map byV) 5))]) (n + 1) [pb, b]
 | some b, p :: F, [] => .ret (.tuple #[.slice none 0 0, .int .i64 e]) (setL H [(pb, some (.cells [sq n (T ++ p :: F).length U, .int .i64 (en' : Int)] 74)), (b, none), (n, some (.cells ((T ++ p :: F).flatMap layT.g) 130))]) (n + 1) [pb, b]
 | some b, p :: F, u :: us => .ret (.tuple #[sq n (us.length + 1) U, .int .i64 e]) (setL H [(pb, some (.cells [.slice (some ⟨n + 1, 0, none⟩) (T ++ p :: F).length U, .int .i64 (en' : Int)] 74)), (b, none), (n, some (.cells ((u :: us).map byV) 5)), (n + 1, some (.cells ((T ++ p :: F).flatMap layT.g) 130))]) (n + 2) [pb, b]
theorem zHe {f : FuncId} {args args0 : List Value} {H H0 H' : Tr AObj} {n m pb lb b en en' l : Nat} {wr : List Nat} {T F : List (Bl × Nat)} {e : Int} {o : Bl} (hF : FnS Try.prog 0 f args0 H0 2 (.ret (.tuple #[ovN b o, .int .i64 e]) H' m wr))
  (hA : [pb, lb].Nodup) (hcb : CallB Try.prog [pb, lb] H H0) (harg : RL (caR [pb, lb]) args args0) (h2 : H.get pb = some (.cells [sq lb T.length U, .int .i64 (en : Int)] 74)) (h3 : H.get lb = some (.cells (T.flatMap layT.g) 130)) (w0 : 0 ∈ wr) (w1 : 1 ∈ wr)
  (gb : o ≠ [] -> 2 <= b /\ b < JJ /\ H'.get b = some (.cells (o.map byV) 5)) (gl : F = [] /\ l = 1 \/ F ≠ [] /\ 2 <= l /\ l < JJ /\ (o ≠ [] -> l ≠ b)) (g2 : H'.get 0 = some (.cells [sq l (T ++ F).length U, .int .i64 (en' : Int)] 74)) (g3 : H'.get l = some (.cells ((T ++ F).flatMap layT.g) 130)) (hw0 : ∀ j, j < 2 -> ∀ o, H0.get j = some o -> ¬ o.isWin) :
  CallOK Try.prog 0 f args H n (rwO pb (some lb) T e o F en' H n) := by
 have hw : ∀ j ∈ [pb, lb], ∃ o, H.get j = some o /\ ¬ o.isWin := fun j hj => by
  simp only [aK, List.not_mem_nil, or_false] at hj
  rcases hj with rfl | rfl
  ·exact ⟨_, h2, fun h => h⟩
  exact ⟨_, h3, fun h => h⟩
 have hw0' : ∀ k o, H0.get k = some o -> k < [pb, lb].length -> ¬ o.isWin := fun k o h1 h2 => hw0 k h2 o h1
 rcases gl with ⟨f0, rfl⟩ | ⟨f0, hl1, hlJ, hlb⟩
 ·subst f0
  rw [aF] at g2 g3
  cases o with
  | nil =>
   refine zAt (n := n) [pb, lb] [] [(pb, some (.cells [sq lb T.length U, .int .i64 (en' : Int)] 74))] hF hA hcb harg hw0' hw (by simp) (fun x hx => by cases hx)
    (.tuple _ _ (.cons _ _ _ _ (.snil _ _) (.cons _ _ _ _ (.int _ _) .nil))) (fun p hp => by simp at hp; subst hp <;> simp) (fun q j e1 _ => by
    match q, e1 with
    | 0, e1 => cases e1; exact .inl (by simp)
    | 1, e1 => cases e1; exact .inr ⟨_, _, h3, g3, .same (zBa T)⟩
    | q + 2, e1 => simp at e1) (fun j ob hm => ?_)
   rcases aK.1 hm with e | hm
   ·cases e; exact ⟨0, _, zBt rfl, g2, zBp _ _ _ (zBt rfl) _ _, fun _ => w0⟩
   cases hm
  | cons u us =>
   obtain ⟨b1, b2, b3⟩ := gb (aZ _ _)
   have t1 : tau [pb, lb] [b] n b n := zDw 0 (by simp) b1 rfl
   refine zAt (n := n) [pb, lb] [b] [(pb, some (.cells [sq lb T.length U, .int .i64 (en' : Int)] 74)), (n, some (.cells ((u :: us).map byV) 5))] hF hA hcb harg hw0' hw (by simp) (fun x hx => by simp at hx; subst hx; exact ⟨b1, b2, by rw [b3]; simp⟩)
    (.tuple _ _ (.cons _ _ _ _ (.sl _ _ _ _ _ t1) (.cons _ _ _ _ (.int _ _) .nil))) (fun p hp => by simp at hp; rcases hp with rfl | rfl <;> simp) (fun q j e1 _ => by
    match q, e1 with
    | 0, e1 => cases e1; exact .inl (by simp)
    | 1, e1 => cases e1; exact .inr ⟨_, _, h3, g3, .same (zBa T)⟩
    | q + 2, e1 => simp at e1) (fun j ob hm => ?_)
   rcases aK.1 hm with e | hm
   ·cases e; exact ⟨0, _, zBt rfl, g2, zBp _ _ _ (zBt rfl) _ _, fun _ => w0⟩
   rcases aK.1 hm with e | hm
   ·cases e; exact ⟨b, _, t1, b3, .same (zAa _), fun h => by have h : b < 2 := h; omega⟩
   cases hm
 obtain ⟨p, F, rfl⟩ : ∃ p F', F = p :: F' := by cases F with | nil => exact ab rfl f0 | cons p F => exact ⟨p, F, rfl⟩
 cases o with
 | nil =>
  have t2 : tau [pb, lb] [l] n l n := zDw 0 (by simp) hl1 rfl
  refine zAt (n := n) [pb, lb] [l] [(pb, some (.cells [sq n (T ++ p :: F).length U, .int .i64 (en' : Int)] 74)), (lb, none), (n, some (.cells ((T ++ p :: F).flatMap layT.g) 130))] hF hA hcb harg hw0' hw (by simp) (fun x hx => by simp at hx; subst hx; exact ⟨hl1, hlJ, by rw [g3]; simp⟩)
   (.tuple _ _ (.cons _ _ _ _ (.snil _ _) (.cons _ _ _ _ (.int _ _) .nil))) (fun p hp => by simp at hp; rcases hp with rfl | rfl | rfl <;> simp) (fun q j e1 _ => .inl (by have := List.mem_of_getElem? e1; simp at this; rcases this with rfl | rfl <;> simp)) (fun j ob hm => ?_)
  rcases aK.1 hm with e | hm
  ·cases e; exact ⟨0, _, zBt rfl, g2, zBp _ _ _ t2 _ _, fun _ => w0⟩
  rcases aK.1 hm with e | hm
  ·cases e
  rcases aK.1 hm with e | hm
  ·cases e; exact ⟨l, _, t2, g3, .same (zBa _), fun h => by have h : l < 2 := h; omega⟩
  cases hm
 | cons u us =>
  obtain ⟨b1, b2, b3⟩ := gb (aZ _ _)
  have hBn : [b, l].Nodup := by simp [Ne.symm (hlb (aZ _ _))]
  have t1 : tau [pb, lb] [b, l] n b n := zDw 0 hBn b1 rfl
  have t2 : tau [pb, lb] [b, l] n l (n + 1) := zDw 1 hBn hl1 rfl
  refine zAt (n := n) [pb, lb] [b, l] [(pb, some (.cells [.slice (some ⟨n + 1, 0, none⟩) (T ++ p :: F).length U, .int .i64 (en' : Int)] 74)), (lb, none), (n, some (.cells ((u :: us).map byV) 5)), (n + 1, some (.cells ((T ++ p :: F).flatMap layT.g) 130))] hF hA hcb harg hw0' hw hBn (fun x hx => by
   simp only [aK, List.not_mem_nil, or_false] at hx
   rcases hx with rfl | rfl
   ·exact ⟨b1, b2, by rw [b3]; simp⟩
   ·exact ⟨hl1, hlJ, by rw [g3]; simp⟩)
   (.tuple _ _ (.cons _ _ _ _ (.sl _ _ _ _ _ t1) (.cons _ _ _ _ (.int _ _) .nil))) (fun p hp => by simp at hp; rcases hp with rfl | rfl | rfl | rfl <;> simp) (fun q j e1 _ => .inl (by have := List.mem_of_getElem? e1; simp at this; rcases this with rfl | rfl <;> simp)) (fun j ob hm => ?_)
  rcases aK.1 hm with e | hm
  ·cases e; exact ⟨0, _, zBt rfl, g2, zBp _ _ _ t2 _ _, fun _ => w0⟩
  rcases aK.1 hm with e | hm
  ·cases e
  rcases aK.1 hm with e | hm
  ·cases e; exact ⟨b, _, t1, b3, .same (zAa _), fun h => by have h : b < 2 := h; omega⟩
  rcases aK.1 hm with e | hm
  ·cases e; exact ⟨l, _, t2, g3, .same (zBa _), fun h => by have h : l < 2 := h; omega⟩
  cases hm
theorem zHd {f : FuncId} {args args0 : List Value} {H H0 H' : Tr AObj} {n m pb b en en' l : Nat} {wr : List Nat} {T F : List (Bl × Nat)} {e : Int} {o : Bl} (hF : FnS Try.prog 0 f args0 H0 1 (.ret (.tuple #[ovN b o, .int .i64 e]) H' m wr))
  (hA : [pb].Nodup) (hcb : CallB Try.prog [pb] H H0) (harg : RL (caR [pb]) args args0) (h2 : H.get pb = some (.cells [.slice none 0 0, .int .i64 (en : Int)] 74)) (w0 : 0 ∈ wr)
  (gb : o ≠ [] -> 1 <= b /\ b < JJ /\ H'.get b = some (.cells (o.map byV) 5)) (hT0 : T = []) (gl : F = [] /\ H'.get 0 = some (.cells [.slice none 0 0, .int .i64 (en' : Int)] 74) \/ F ≠ [] /\ (1 <= l /\ l < JJ /\ (o ≠ [] -> l ≠ b)) /\ H'.get 0 = some (.cells [sq l F.length U, .int .i64 (en' : Int)] 74) /\ H'.get l = some (.cells (F.flatMap layT.g) 130)) (hw0 : ∀ j, j < 1 -> ∀ o, H0.get j = some o -> ¬ o.isWin) :
  CallOK Try.prog 0 f args H n (rwO pb none T e o F en' H n) := by
 have hw : ∀ j ∈ [pb], ∃ o, H.get j = some o /\ ¬ o.isWin := fun j hj => by
  simp only [aK, List.not_mem_nil, or_false] at hj
  subst hj; exact ⟨_, h2, fun h => h⟩
 have hw0' : ∀ k o, H0.get k = some o -> k < [pb].length -> ¬ o.isWin := fun k o h1 h2 => hw0 k h2 o h1
 subst hT0
 rcases gl with ⟨f0, g2⟩ | ⟨f0, ⟨hl1, hlJ, hlb⟩, g2, g3⟩
 ·subst f0
  cases o with
  | nil =>
   refine zAt (n := n) [pb] [] [(pb, some (.cells [.slice none 0 0, .int .i64 (en' : Int)] 74))] hF hA hcb harg hw0' hw (by simp) (fun x hx => by cases hx)
    (.tuple _ _ (.cons _ _ _ _ (.snil _ _) (.cons _ _ _ _ (.int _ _) .nil))) (fun p hp => by simp at hp; subst hp <;> simp) (fun q j e1 _ => .inl (by have := List.mem_of_getElem? e1; simp at this; subst this; simp)) (fun j ob hm => ?_)
   rcases aK.1 hm with e | hm
   ·cases e; exact ⟨0, _, zBt rfl, g2, .same rfl, fun _ => w0⟩
   cases hm
  | cons u us =>
   obtain ⟨b1, b2, b3⟩ := gb (aZ _ _)
   have t1 : tau [pb] [b] n b n := zDw 0 (by simp) b1 rfl
   refine zAt (n := n) [pb] [b] [(pb, some (.cells [.slice none 0 0, .int .i64 (en' : Int)] 74)), (n, some (.cells ((u :: us).map byV) 5))] hF hA hcb harg hw0' hw (by simp) (fun x hx => by simp at hx; subst hx; exact ⟨b1, b2, by rw [b3]; simp⟩)
    (.tuple _ _ (.cons _ _ _ _ (.sl _ _ _ _ _ t1) (.cons _ _ _ _ (.int _ _) .nil))) (fun p hp => by simp at hp; rcases hp with rfl | rfl <;> simp) (fun q j e1 _ => .inl (by have := List.mem_of_getElem? e1; simp at this; subst this; simp)) (fun j ob hm => ?_)
   rcases aK.1 hm with e | hm
   ·cases e; exact ⟨0, _, zBt rfl, g2, .same rfl, fun _ => w0⟩
   rcases aK.1 hm with e | hm
   ·cases e; exact ⟨b, _, t1, b3, .same (zAa _), fun h => by have h : b < 1 := h; omega⟩
   cases hm
 obtain ⟨p, F, rfl⟩ : ∃ p F', F = p :: F' := by cases F with | nil => exact ab rfl f0 | cons p F => exact ⟨p, F, rfl⟩
 cases o with
 | nil =>
  have t2 : tau [pb] [l] n l n := zDw 0 (by simp) hl1 rfl
  refine zAt (n := n) [pb] [l] [(pb, some (.cells [sq n ([] ++ p :: F).length U, .int .i64 (en' : Int)] 74)), (n, some (.cells (([] ++ p :: F).flatMap layT.g) 130))] hF hA hcb harg hw0' hw (by simp) (fun x hx => by simp at hx; subst hx; exact ⟨hl1, hlJ, by rw [g3]; simp⟩)
   (.tuple _ _ (.cons _ _ _ _ (.snil _ _) (.cons _ _ _ _ (.int _ _) .nil))) (fun p hp => by simp at hp; rcases hp with rfl | rfl <;> simp) (fun q j e1 _ => .inl (by have := List.mem_of_getElem? e1; simp at this; subst this; simp)) (fun j ob hm => ?_)
  rcases aK.1 hm with e | hm
  ·cases e; exact ⟨0, _, zBt rfl, g2, zBp _ _ _ t2 _ _, fun _ => w0⟩
  rcases aK.1 hm with e | hm
  ·cases e; exact ⟨l, _, t2, g3, .same (zBa _), fun h => by have h : l < 1 := h; omega⟩
  cases hm
 | cons u us =>
  obtain ⟨b1, b2, b3⟩ := gb (aZ _ _)
  have hBn : [b, l].Nodup := by simp [Ne.symm (hlb (aZ _ _))]
  have t1 : tau [pb] [b, l] n b n := zDw 0 hBn b1 rfl
  have t2 : tau [pb] [b, l] n l (n + 1) := zDw 1 hBn hl1 rfl
  refine zAt (n := n) [pb] [b, l] [(pb, some (.cells [.slice (some ⟨n + 1, 0, none⟩) ([] ++ p :: F).length U, .int .i64 (en' : Int)] 74)), (n, some (.cells ((u :: us).map byV) 5)), (n + 1, some (.cells (([] ++ p :: F).flatMap layT.g) 130))] hF hA hcb harg hw0' hw hBn (fun x hx => by
   simp only [aK, List.not_mem_nil, or_false] at hx
   rcases hx with rfl | rfl
   ·exact ⟨b1, b2, by rw [b3]; simp⟩
   ·exact ⟨hl1, hlJ, by rw [g3]; simp⟩)
   (.tuple _ _ (.cons _ _ _ _ (.sl _ _ _ _ _ t1) (.cons _ _ _ _ (.int _ _) .nil))) (fun p hp => by simp at hp; rcases hp with rfl | rfl | rfl <;> simp) (fun q j e1 _ => .inl (by have := List.mem_of_getElem? e1; simp at this; subst this; simp)) (fun j ob hm => ?_)
  rcases aK.1 hm with e | hm
  ·cases e; exact ⟨0, _, zBt rfl, g2, zBp _ _ _ t2 _ _, fun _ => w0⟩
  rcases aK.1 hm with e | hm
  ·cases e; exact ⟨b, _, t1, b3, .same (zAa _), fun h => by have h : b < 1 := h; omega⟩
  rcases aK.1 hm with e | hm
  ·cases e; exact ⟨l, _, t2, g3, .same (zBa _), fun h => by have h : l < 1 := h; omega⟩
  cases hm
structure RwX where
 pb : Nat
 v : Option Nat
 en : Nat
 T : List (Bl × Nat)
 a : Int
 t : Int
 s : ByteArray
 e : Int
 o : Bl
 F : List (Bl × Nat)
 en' : Nat
theorem rpackB {pb lb en : Nat} {T : List (Bl × Nat)} {H : Tr AObj} (h2 : H.get pb = some (.cells [sq lb T.length U, .int .i64 (en : Int)] 74)) (h3 : H.get lb = some (.cells (T.flatMap layT.g) 130)) :
  [pb, lb].Nodup /\ CallB Try.prog [pb, lb] H (heap 2 [(0, .cells [sq 1 T.length U, .int .i64 (en : Int)] 74), (1, .cells (T.flatMap layT.g) 130)]) /\ ∀ j, j < 2 -> ∀ o, (heap 2 [(0, AObj.cells [sq 1 T.length U, .int .i64 (en : Int)] 74), (1, .cells (T.flatMap layT.g) 130)]).get j = some o -> ¬ o.isWin := by
 refine ⟨by simp [pb_ne h2 h3], zCl ⟨⟨pb, _, rfl, h2, zBp (caR [pb, lb]) lb 1 rfl _ _⟩, ⟨lb, _, rfl, h3, .same (zBa T)⟩, tv⟩, fun j hj ob ho => ?_⟩
 match j, hj, ho with
 | 0, _, ho => have ho : some (AObj.cells _ _) = some ob := ho; cases ho; exact fun h => h
 | 1, _, ho => have ho : some (AObj.cells _ _) = some ob := ho; cases ho; exact fun h => h
theorem rpackB0 {pb en : Nat} {H : Tr AObj} (h2 : H.get pb = some (.cells [.slice none 0 0, .int .i64 (en : Int)] 74)) :
  [pb].Nodup /\ CallB Try.prog [pb] H (heap 1 [(0, .cells [.slice none 0 0, .int .i64 (en : Int)] 74)]) /\ ∀ j, j < 1 -> ∀ o, (heap 1 [(0, AObj.cells [.slice none 0 0, .int .i64 (en : Int)] 74)]).get j = some o -> ¬ o.isWin := by
 refine ⟨by simp, zCl ⟨⟨pb, _, rfl, h2, .same rfl⟩, tv⟩, fun j hj ob ho => ?_⟩
 match j, hj, ho with
 | 0, _, ho => have ho : some (AObj.cells _ _) = some ob := ho; cases ho; exact fun h => h
theorem rwO_frc {pb : Nat} {v : Option Nat} {T : List (Bl × Nat)} {e : Int} {o : Bl} {F : List (Bl × Nat)} {en' : Nat} {H : Tr AObj} {n : Nat} {K : Res -> Prop} (h : frcN pb fun pb => match v with | none => K (rwO pb none T e o F en' H n) | some b => frcN b fun b => K (rwO pb (some b) T e o F en' H n)) : K (rwO pb v T e o F en' H n) := by
 rw [zCe] at h
 cases v with
 | none => exact h
 | some b =>
  have h : (frcN b fun b => _) := h
  rw [zCe] at h; exact h
noncomputable def ct_rwrite : Ct Try.prog 0 :=
 CtR.ct { f := 78, X := RwX,
          pre := fun x as0 H _ => as0 = [.pointer (some ⟨x.pb, 0, none⟩), .int .i64 x.a, .int .i64 x.t, .string x.s] /\ H.get x.pb = some (.cells [rnV x.v x.T, .int .i64 (x.en : Int)] 74) /\ rnAt x.v x.T H /\ goodT x.T /\ x.T.length <= 900000000 /\ (bs x.s).length <= 100000000 /\ wrD x.en x.T x.a x.t (bs x.s) = (x.e, x.o, x.F, x.en'),
          out := fun x H n => rwO x.pb x.v x.T x.e x.o x.F x.en' H n,
          tr := fun x H n K => frcN x.pb fun pb => match x.v with | none => K (rwO pb none x.T x.e x.o x.F x.en' H n) | some b => frcN b fun b => K (rwO pb (some b) x.T x.e x.o x.F x.en' H n),
          trOk := fun x H n K h => rwO_frc h,
          ok := fun x as0 H n ⟨h1, h2, h3, h4, h5, h6, h7⟩ => by
           subst h1
           obtain ⟨pb, v, en, T, a, t, s, e, o, F, en'⟩ := x
           cases v with
           | none =>
            have h3 : T = [] := h3
            subst h3
            obtain ⟨q1, q2, q3⟩ := rpackB0 h2
            obtain ⟨r, hF, H', m, wr, b, l, rfl, g1, g2⟩ := rwn_fn a t s en h6 e o F en' h7
            have := zHd (n := n) (hF.wr [0]) q1 q2 (.cons _ _ _ _ (.ptr _ _ _ rfl) (.cons _ _ _ _ (.int _ _) (.cons _ _ _ _ (.int _ _) (.cons _ _ _ _ (.string _) .nil)))) h2 (by simp) g1 rfl g2 q3
            cases F <;> cases o <;> exact this
           | some b =>
            obtain ⟨h3, hT0⟩ := h3
            obtain ⟨q1, q2, q3⟩ := rpackB h2 h3
            obtain ⟨r, hF, H', m, wr, b', l, rfl, g1, gl, g2, g3⟩ := rwo_fn a t s en T h4 hT0 h5 h6 e o F en' h7
            have := zHe (n := n) (hF.wr [0, 1]) q1 q2 (.cons _ _ _ _ (.ptr _ _ _ rfl) (.cons _ _ _ _ (.int _ _) (.cons _ _ _ _ (.int _ _) (.cons _ _ _ _ (.string _) .nil)))) h2 h3 (by simp) (by simp) g1 gl g2 g3 q3
            cases F <;> cases o <;> exact this,
          uniq := fun x y as0 H n ⟨h1, h2, h3, _, _, _, h6⟩ ⟨k1, k2, k3, _, _, _, k6⟩ => by
           obtain ⟨pb, v, en, T, a, t, s, e, o, F, en1⟩ := x
           obtain ⟨pb', v', en', T', a', t', s', e', o', F', en1'⟩ := y
           rw [h1] at k1
           simp only [aQ, Value.pointer.injEq, aP, Addr.mk.injEq, and_true, Value.int.injEq, true_and, Value.string.injEq] at k1
           obtain ⟨rfl, rfl, rfl, rfl⟩ := k1
           obtain ⟨rfl, rfl, rfl⟩ := rn_pre h2 k2 h3 k3
           have := h6.symm.trans k6
           simp only [Prod.mk.injEq] at this
           obtain ⟨rfl, rfl, rfl, rfl⟩ := this
           rfl }
noncomputable def inl_put4 : Ct Try.prog 0 := Ct.inl (tbOf mixed []) mixed [] 90 Try.f90 Try.func90 (bodyOf Try.f90) (by kernel_rfl)
noncomputable def inl_rput : Ct Try.prog 0 := Ct.inl (tbOf mixed []) mixed [] 74 Try.f74 Try.func74 (bodyOf Try.f74) (by kernel_rfl)
noncomputable def tbWr5 : Tb Try.prog 0 := tbOf mixed [inl_put4]
noncomputable def tbWr5r : Tb Try.prog 0 := tbOf mixed [inl_rput]
def by4 (v : Nat) : Bl := [UInt8.ofNat (v / 2 ^ 24), UInt8.ofNat (v / 2 ^ 16), UInt8.ofNat (v / 2 ^ 8), UInt8.ofNat (v / 2 ^ 0)]
def by2 (v : Nat) : Bl := [hi8 v, lo8 v]
theorem wrapD (v k : Nat) : IntKind.u8.wrap (Int.fdiv (v : Int) (2 ^ k)) = ((UInt8.ofNat (v / 2 ^ k)).toNat : Int) := by rw [fdivP]; exact wrap8
theorem lo8_eq (v : Nat) : UInt8.ofNat (v / 2 ^ 0) = lo8 v := by
 unfold lo8; apply UInt8.toNat_inj.1; simp
theorem put32_fn (v : Nat) (h : v < 4294967296) : ∃ r, FnS Try.prog 0 72 [.int .i64 (v : Int)] .e 0 r /\ ∃ H m wr, r = .ret (.tuple #[sq 8 4 U, .int .i64 0]) H m wr /\ H.get 8 = some (.cells ((by4 v).map byV) 5) := by
 have a1 : shrI .i64 (v : Int) (IntKind.i64.wrap (8 * 4)) = 0 := by
  show Int.fdiv (v : Int) (2 ^ 32) = 0
  rw [fdivP]; omega
 refine zBh mixed tbWr5 [] Try.func72 (c := bodyOf Try.f72) (by kernel_rfl) ?_
 refine ifK (fun g => by have g : (shrI .i64 (v : Int) (IntKind.i64.wrap (8 * 4)) != 0) = true := g; rw [a1] at g; cases g) (fun _ => ?_)
 refine aI (by kernel_rfl) ?_
 refine aI (by kernel_rfl) ?_
 refine aI (by kernel_rfl) ?_
 refine ⟨_, _, _, rfl, ?_⟩
 show some (AObj.cells [.int .u8 (IntKind.u8.wrap (Int.fdiv (v : Int) (2 ^ 24))), .int .u8 (IntKind.u8.wrap (Int.fdiv (v : Int) (2 ^ 16))), .int .u8 (IntKind.u8.wrap (Int.fdiv (v : Int) (2 ^ 8))), .int .u8 (IntKind.u8.wrap (Int.fdiv (v : Int) (2 ^ 0)))] _) = _
 rw [wrapD, wrapD, wrapD, wrapD]; rfl
noncomputable def ct_newB (f : FuncId) (b : Nat) (hb : b < JJ) (bound : Nat) (bytes : Nat -> Bl) (k : Nat) (ok : ∀ v, v < bound -> ∃ r, FnS Try.prog 0 f [.int .i64 (v : Int)] .e 0 r /\ ∃ H m wr, r = .ret (.tuple #[sq b k U, .int .i64 0]) H m wr /\ H.get b = some (.cells ((bytes v).map byV) 5)) : Ct Try.prog 0 :=
 CtR.ct { f := f, X := Nat, pre := fun v a _ _ => a = [.int .i64 (v : Int)] /\ v < bound,
          out := fun v H n => .ret (.tuple #[sq n k U, .int .i64 0]) (layN H n [((bytes v).map byV, 5)]) (n + 1) [],
          ok := fun v a H n ⟨h1, h2⟩ => by
           subst h1
           obtain ⟨r, hF, H', m, wr, rfl, hg⟩ := ok v h2
           refine zHc (fun n => .tuple #[sq n k U, .int .i64 0]) [] [b] [((bytes v).map byV, 5)] hF (fun k _ => aH k) (fun i j o hij hi => by simp at hi) (ArgOK.of (.cons _ _ _ _ (.int _ _) .nil)) (fun k o hk => by cases hk) (by simp) (fun x hx => by simp at hx; subst hx; exact ⟨aH _, hb⟩) rfl (fun i b xs e hb hc => ?_)
            (fun n => .tuple _ _ (.cons _ _ _ _ (.sl _ _ _ _ _ (zDw 0 (by simp) (aH _) rfl)) (.cons _ _ _ _ (.int _ _) .nil)))
           match i, hb, hc with
           | 0, hb, hc => cases hb; cases hc; exact ⟨hg, zAa _⟩
           | i + 1, hb, hc => simp at hb,
          uniq := fun x y a H n ⟨h1, _⟩ ⟨k1, _⟩ => by
           rw [h1] at k1
           simp only [aQ, Value.int.injEq, true_and, and_true] at k1
           have : x = y := by omega
           rw [this] }
noncomputable def ct_put32 : Ct Try.prog 0 := ct_newB 72 8 (by decide) 4294967296 by4 4 put32_fn
theorem rput32_fn (v : Nat) (h : v < 4294967296) : ∃ r, FnS Try.prog 0 77 [.int .i64 (v : Int)] .e 0 r /\ ∃ H m wr, r = .ret (.tuple #[sq 7 4 U, .int .i64 0]) H m wr /\ H.get 7 = some (.cells ((by4 v).map byV) 5) := by
 have a1 : shrI .i64 (v : Int) (IntKind.i64.wrap (8 * 4)) = 0 := by
  show Int.fdiv (v : Int) (2 ^ 32) = 0
  rw [fdivP]; omega
 refine zBh mixed tbWr5r [] Try.func77 (c := bodyOf Try.f77) (by kernel_rfl) ?_
 refine ifK (fun g => by have g : (shrI .i64 (v : Int) (IntKind.i64.wrap (8 * 4)) != 0) = true := g; rw [a1] at g; cases g) (fun _ => ?_)
 refine aI (by kernel_rfl) ?_
 refine aI (by kernel_rfl) ?_
 refine aI (by kernel_rfl) ?_
 refine ⟨_, _, _, rfl, ?_⟩
 show some (AObj.cells [.int .u8 (IntKind.u8.wrap (Int.fdiv (v : Int) (2 ^ 24))), .int .u8 (IntKind.u8.wrap (Int.fdiv (v : Int) (2 ^ 16))), .int .u8 (IntKind.u8.wrap (Int.fdiv (v : Int) (2 ^ 8))), .int .u8 (IntKind.u8.wrap (Int.fdiv (v : Int) (2 ^ 0)))] _) = _
 rw [wrapD, wrapD, wrapD, wrapD]; rfl
noncomputable def ct_rput32 : Ct Try.prog 0 := ct_newB 77 7 (by decide) 4294967296 by4 4 rput32_fn
theorem rput16_fn (v : Int) : ∃ r, FnS Try.prog 0 48 [.int .i64 v] .e 0 r /\ ∃ H m wr, (0 <= v /\ v <= 65535 /\ r = .ret (.tuple #[sq 3 2 U, .int .i64 0]) H m wr /\ H.get 3 = some (.cells ((by2 v.toNat).map byV) 5) \/ ¬ (0 <= v /\ v <= 65535) /\ r = .ret (.tuple #[.slice none 0 0, .int .i64 5]) H m wr) := by
 have a1 : shrI .i64 v (IntKind.i64.wrap (8 * 2)) = Int.fdiv v 65536 := rfl
 refine zBh mixed tbWr5r [] Try.func48 (c := bodyOf Try.f48) (by kernel_rfl) ?_
 refine ifK (fun g => ?_) (fun g => ?_)
 ·have g := oT g
  exact ⟨_, _, _, .inr ⟨by omega, rfl⟩⟩
 have g : ¬ v < 0 := oF g
 obtain ⟨k, rfl⟩ : ∃ k : Nat, v = (k : Int) := ⟨v.toNat, by omega⟩
 have a2 : Int.fdiv (k : Int) 65536 = ((k / 65536 : Nat) : Int) := by have := fdivP k 16; simpa using this
 refine ifK (fun g2 => ?_) (fun g2 => ?_)
 ·have g2 : (shrI .i64 (k : Int) (IntKind.i64.wrap (8 * 2)) != 0) = true := g2
  rw [a1, a2] at g2
  have g2 : ((k / 65536 : Nat) : Int) ≠ 0 := by simpa using g2
  exact ⟨_, _, _, .inr ⟨by omega, rfl⟩⟩
 have g2 : (shrI .i64 (k : Int) (IntKind.i64.wrap (8 * 2)) != 0) = false := g2
 rw [a1, a2] at g2
 have g2 : ((k / 65536 : Nat) : Int) = 0 := by simpa using g2
 refine aI (by kernel_rfl) ?_
 refine ⟨_, _, _, .inl ⟨by omega, by omega, rfl, ?_⟩⟩
 show some (AObj.cells [.int .u8 (IntKind.u8.wrap (Int.fdiv (k : Int) (2 ^ 8))), .int .u8 (IntKind.u8.wrap (Int.fdiv (k : Int) (2 ^ 0)))] _) = _
 rw [wrapD, wrapD, lo8_eq]; rfl
noncomputable def zKs : Ct Try.prog 0 :=
 CtR.ct { f := 48, X := Int, pre := fun v a _ _ => a = [.int .i64 v],
          out := fun v H n => if 0 <= v /\ v <= 65535 then .ret (.tuple #[sq n 2 U, .int .i64 0]) (layN H n [((by2 v.toNat).map byV, 5)]) (n + 1) [] else .ret (.tuple #[.slice none 0 0, .int .i64 5]) H n [],
          tr := fun v H n K => brK (decide (0 <= v /\ v <= 65535)) (K (.ret (.tuple #[sq n 2 U, .int .i64 0]) (layN H n [((by2 v.toNat).map byV, 5)]) (n + 1) [])) (K (.ret (.tuple #[.slice none 0 0, .int .i64 5]) H n [])),
          trOk := fun v H n K h => by
           by_cases hv : 0 <= v /\ v <= 65535
           ·rw [if_pos hv]; rw [aX hv] at h; exact h
           rw [if_neg hv]; rw [aY hv] at h; exact h,
          ok := fun v a H n h1 => by
           subst h1
           obtain ⟨r, hF, H', m, wr, ⟨p1, p2, rfl, hg⟩ | ⟨p1, rfl⟩⟩ := rput16_fn v
           ·rw [if_pos ⟨p1, p2⟩]
            refine zHc (fun n => .tuple #[sq n 2 U, .int .i64 0]) [] [3] [((by2 v.toNat).map byV, 5)] hF (fun k _ => aH k) (fun i j o hij hi => by simp at hi) (ArgOK.of (.cons _ _ _ _ (.int _ _) .nil)) (fun k o hk => by cases hk) (by decide) (fun x hx => by simp at hx; subst hx; exact ⟨aH _, by decide⟩) rfl (fun i b xs e hb hc => ?_)
             (fun n => .tuple _ _ (.cons _ _ _ _ (.sl _ _ _ _ _ (zDw 0 (by decide) (aH _) rfl)) (.cons _ _ _ _ (.int _ _) .nil)))
            match i, hb, hc with
            | 0, hb, hc => cases hb; cases hc; exact ⟨hg, zAa _⟩
            | i + 1, hb, hc => simp at hb
           rw [if_neg p1]
           exact zAx hF rfl rfl H n,
          uniq := fun x y a H n h1 k1 => by
           rw [h1] at k1
           simp only [aQ, Value.int.injEq, true_and, and_true] at k1
           rw [k1] }
noncomputable def tbR1 : Tb Try.prog 0 := tbOf mixed []
def numB (n m : Int) : Bool := decide (0 <= n /\ n <= m)
theorem number_fn (n m : Int) : ∃ r, FnS Try.prog 0 69 [.int .i64 n, .int .i64 m] .e 0 r /\ ∃ H k wr, r = .ret (.bool (numB n m)) H k wr := by
 refine zBh mixed tbR1 [] Try.func69 (c := bodyOf Try.f69) (by kernel_rfl) ?_
 unfold numB
 refine ifK (fun h1 => ?_) (fun h1 => ?_)
 ·have h1 := oT h1
  rw [show decide (0 <= n /\ n <= m) = decide (n <= m) by rw [decide_eq_decide]; exact ⟨fun h => h.2, fun h => ⟨h1, h⟩⟩]
  exact ⟨_, _, _, rfl⟩
 have h1 := oF h1
 rw [show decide (0 <= n /\ n <= m) = false by rw [decide_eq_false_iff_not]; exact fun h => h1 h.1]
 exact ⟨_, _, _, rfl⟩
theorem short_fn (n : Int) : ∃ r, FnS Try.prog 0 93 [.int .i64 n] .e 0 r /\ ∃ H k wr, r = .ret (.bool (numB n 65535)) H k wr := by
 refine zBh mixed tbR1 [] Try.func93 (c := bodyOf Try.f93) (by kernel_rfl) ?_
 unfold numB
 refine ifK (fun h1 => ?_) (fun h1 => ?_)
 ·have h1 := oT h1
  rw [show decide (0 <= n /\ n <= 65535) = decide (n <= 65535) by rw [decide_eq_decide]; exact ⟨fun h => h.2, fun h => ⟨h1, h⟩⟩]
  exact ⟨_, _, _, rfl⟩
 have h1 := oF h1
 rw [show decide (0 <= n /\ n <= 65535) = false by rw [decide_eq_false_iff_not]; exact fun h => h1 h.1]
 exact ⟨_, _, _, rfl⟩
def Ct.sh {X : Type} (f : FuncId) (mt : List Value -> Option X) (args : X -> List Value) (hm : ∀ l x, mt l = some x -> l = args x) (pre : X -> Bool) (out : X -> Value) (ha : ∀ x, plainL (args x) = true) (hp : ∀ x, plainV 8 (out x) = true) (ok : ∀ x, pre x = true -> ∃ H m wr, FnS Try.prog 0 f (args x) .e 0 (.ret (out x) H m wr)) : Ct Try.prog 0 where
 f := f
 res l H n := match mt l with | some x => bif pre x then .ret (out x) H n [] else .bad "not such" [] | none => .bad "arguments" []
 ok l H n := by
  cases h : mt l with
  | none => trivial
  | some x =>
   cases hx : pre x with
   | false => simp only [hx]; trivial
   | true =>
    simp only [hx, cT]
    rw [hm l x h]
    obtain ⟨_, _, _, hF⟩ := ok x hx
    exact zAx hF (ha x) (hp x) H n
 ck l H n K := match mt l with | some x => pre x = true /\ K (.ret (out x) H n []) | none => False
 imp l H n K h := by
  cases hm : mt l with
  | none => rw [hm] at h; exact h.elim
  | some x =>
   rw [hm] at h
   obtain ⟨h1, h2⟩ := h
   simp only [h1, cT]; exact h2
def mtI2 : List Value -> Option (Int × Int) | [.int .i64 a, .int .i64 b] => some (a, b) | _ => none
def mtI1 : List Value -> Option Int | [.int .i64 a] => some a | _ => none
def Ct.i2 (f : FuncId) (out : Int -> Int -> Value) (hp : ∀ x y, plainV 8 (out x y) = true) (ok : ∀ x y, ∃ H m wr, FnS Try.prog 0 f [.int .i64 x, .int .i64 y] .e 0 (.ret (out x y) H m wr)) : Ct Try.prog 0 where
 f := f
 res l H n := match l with | [.int .i64 x, .int .i64 y] => .ret (out x y) H n [] | _ => .bad "arguments" []
 ok l H n := by
  split
  ·rename_i x y
   obtain ⟨_, _, _, h⟩ := ok x y
   exact zAx h rfl (hp x y) H n
  trivial
 ck l H n K := match l with | [.int .i64 x, .int .i64 y] => K (.ret (out x y) H n []) | _ => False
 imp l H n K h := by
  split at h
  ·exact h
  exact h.elim
def Ct.i1 (f : FuncId) (out : Int -> Value) (hp : ∀ x, plainV 8 (out x) = true) (ok : ∀ x, ∃ H m wr, FnS Try.prog 0 f [.int .i64 x] .e 0 (.ret (out x) H m wr)) : Ct Try.prog 0 where
 f := f
 res l H n := match l with | [.int .i64 x] => .ret (out x) H n [] | _ => .bad "arguments" []
 ok l H n := by
  split
  ·rename_i x
   obtain ⟨_, _, _, h⟩ := ok x
   exact zAx h rfl (hp x) H n
  trivial
 ck l H n K := match l with | [.int .i64 x] => K (.ret (out x) H n []) | _ => False
 imp l H n K h := by
  split at h
  ·exact h
  exact h.elim
def zPz : Ct Try.prog 0 := Ct.i2 69 (fun x y => .bool (numB x y)) (fun _ _ => rfl) (fun x y => by obtain ⟨r, h, H, m, wr, rfl⟩ := number_fn x y; exact ⟨H, m, wr, h⟩)
def ct_rshort : Ct Try.prog 0 := Ct.i1 93 (fun x => .bool (numB x 65535)) (fun _ => rfl) (fun x => by obtain ⟨r, h, H, m, wr, rfl⟩ := short_fn x; exact ⟨H, m, wr, h⟩)
structure RcX where
 n : ByteArray
 t : Int
 c : Int
 ttl : Int
 d : ByteArray
def RcX.v (x : RcX) : Value := .agg #[.string x.n, .int .i64 x.t, .int .i64 x.c, .int .i64 x.ttl, .string x.d]
def RcX.ok (x : RcX) : Bool := x.n.data.size.ble 100000000 && x.d.data.size.ble 100000000
noncomputable def tbR2 : Tb Try.prog 0 := tbOf mixed [zPz, ct_rshort, zHt, zFr, zMo, zKt]
def mtR : List Value -> Option RcX
 | [.agg ⟨[.string n, .int .i64 t, .int .i64 c, .int .i64 ttl, .string d]⟩] => some ⟨n, t, c, ttl, d⟩
 | _ => none
theorem mtR_ok (l : List Value) (x : RcX) (h : mtR l = some x) : l = [x.v] := by
 unfold mtR at h; split at h <;> cases h; rfl
theorem RcX.ok1 {x : RcX} (h : x.ok = true) : (bs x.n).length <= 100000000 /\ (bs x.d).length <= 100000000 := by
 unfold RcX.ok at h
 simp only [bA] at h
 rw [<- zAd, <- zAd]
 exact ⟨aE h.1, aE h.2⟩
theorem size8' {s : ByteArray} (h : (bs s).length <= 100000000) : s.data.size.ble 100000000 = true := by rw [zAd]; exact bL h
def recC (x : RcX) : Int := if (labels (bs x.n)).2 ≠ 0 then (labels (bs x.n)).2 else if numB x.t 65535 && numB x.c 65535 && numB x.ttl 2147483647 then checkD x.t (bs x.d) else 5
theorem zXg (x : RcX) (hx : x.ok = true) : ∃ r, FnS Try.prog 0 53 [x.v] .e 0 r /\ ∃ H k wr, r = .ret (.int .i64 (recC x)) H k wr := by
 obtain ⟨hn, hd⟩ := RcX.ok1 hx
 refine zBh mixed tbR2 [] Try.func53 (c := bodyOf Try.f53) (by kernel_rfl) ?_
 unfold recC
 refine aI (zCu (by omega)) ?_
 refine ifK (fun h1 => ?_) (fun h1 => ?_)
 ·rw [if_pos (by simpa using h1)]; exact ⟨_, _, _, rfl⟩
 rw [if_neg (by simpa using h1)]
 refine ifK (fun h2 => ?_) (fun h2 => ?_)
 ·rw [show numB x.t 65535 = false by simpa using h2]; exact ⟨_, _, _, rfl⟩
 rw [show numB x.t 65535 = true by simpa using h2]
 refine ifK (fun h3 => ?_) (fun h3 => ?_)
 ·rw [show numB x.c 65535 = false by simpa using h3]; exact ⟨_, _, _, rfl⟩
 rw [show numB x.c 65535 = true by simpa using h3]
 refine ifK (fun h4 => ?_) (fun h4 => ?_)
 ·rw [show numB x.ttl 2147483647 = false by simpa using h4]; exact ⟨_, _, _, rfl⟩
 rw [show numB x.ttl 2147483647 = true by simpa using h4]
 refine aI (zCu (by omega)) ?_
 exact ⟨_, _, _, rfl⟩
theorem zTi (x : RcX) (hx : x.ok = true) : ∃ r, FnS Try.prog 0 76 [x.v] .e 0 r /\ ∃ H k wr, r = .ret (.int .i64 (recC x)) H k wr := by
 obtain ⟨hn, hd⟩ := RcX.ok1 hx
 refine zBh mixed tbR2 [] Try.func76 (c := bodyOf Try.f76) (by kernel_rfl) ?_
 unfold recC
 refine aI (zCu (by omega)) ?_
 refine ifK (fun h1 => ?_) (fun h1 => ?_)
 ·rw [if_pos (by simpa using h1)]; exact ⟨_, _, _, rfl⟩
 rw [if_neg (by simpa using h1)]
 refine ifK (fun h2 => ?_) (fun h2 => ?_)
 ·rw [show numB x.t 65535 = false by simpa using h2]; exact ⟨_, _, _, rfl⟩
 rw [show numB x.t 65535 = true by simpa using h2]
 refine ifK (fun h3 => ?_) (fun h3 => ?_)
 ·rw [show numB x.c 65535 = false by simpa using h3]; exact ⟨_, _, _, rfl⟩
 rw [show numB x.c 65535 = true by simpa using h3]
 refine ifK (fun h4 => ?_) (fun h4 => ?_)
 ·have h4 := oT h4
  rw [show numB x.ttl 2147483647 = false by unfold numB; rw [decide_eq_false_iff_not]; omega]; exact ⟨_, _, _, rfl⟩
 have h4 := oF h4
 refine ifK (fun h5 => ?_) (fun h5 => ?_)
 ·have h5 := oT h5
  rw [show numB x.ttl 2147483647 = false by unfold numB; rw [decide_eq_false_iff_not]; omega]; exact ⟨_, _, _, rfl⟩
 have h5 := oF h5
 rw [show numB x.ttl 2147483647 = true by unfold numB; rw [decide_eq_true_iff]; omega]
 refine aI (size8' hd) ?_
 exact ⟨_, _, _, rfl⟩
def zKr : Ct Try.prog 0 := Ct.sh 53 mtR (fun x => [x.v]) mtR_ok RcX.ok (fun x => .int .i64 (recC x)) (fun _ => rfl) (fun _ => rfl) (fun x hx => by obtain ⟨r, h, H, m, wr, rfl⟩ := zXg x hx; exact ⟨H, m, wr, h⟩)
def zJi : Ct Try.prog 0 := Ct.sh 76 mtR (fun x => [x.v]) mtR_ok RcX.ok (fun x => .int .i64 (recC x)) (fun _ => rfl) (fun _ => rfl) (fun x hx => by obtain ⟨r, h, H, m, wr, rfl⟩ := zTi x hx; exact ⟨H, m, wr, h⟩)
theorem zVe (T : List (Bl × Nat)) (a : Nat) : ∀ (f : Nat) (t : Bl) (o : Nat), Nm t -> (packN T a f t o).1.length <= t.length
 | 0, _, _, _ => aH _
 | f + 1, t, o, h => by
  unfold packN
  have hp := h.pos
  by_cases hc : (t.getD 0 0).toNat = 0
  ·simp only [hc, if_true]; exact hp
  simp only [hc, if_false]
  cases h with
  | root => exact ab rfl hc
  | lab c x r h1 h2 hx hr =>
   have hrp := hr.pos
   cases hl : lookT T (c :: (x ++ r)) with
   | some k => simp; omega
   | none =>
    have e : (c :: (x ++ r)).drop (((c :: (x ++ r)).getD 0 0).toNat + 1) = r := by
     show (c :: (x ++ r)).drop (c.toNat + 1) = r
     rw [List.drop_succ_cons, <- hx, List.drop_left]
    simp only [e]
    have ih := zVe T a f r (o + ((c :: (x ++ r)).getD 0 0).toNat + 1) hr
    have e2 : ((c :: (x ++ r)).getD 0 0).toNat = c.toNat := rfl
    simp only [aB, aU, aC, e2] at ih ⊢
    omega
theorem wrN_le (a : Int) {T : List (Bl × Nat)} : ∀ (ps : List (Bs × Bool)) (out : Bl) (F : List (Bl × Nat)) (en : Nat), (wrN a T ps out F en).2.1.length <= out.length + sumL ps
 | [], _, _, _ => by simp [wrN, sumL]
 | (s, false) :: ps, out, F, en => by
  unfold wrN
  have h := wrN_le a (T := T) ps (out ++ s) F en
  simp only [sumL, List.flatMap_cons, aB] at h ⊢; omega
 | (s, true) :: ps, out, F, en => by
  unfold wrN
  simp only []
  split
  ·exact aH _
  rename_i he
  obtain ⟨_, _, p4, p5⟩ := zCr (Decidable.not_not.1 he)
  have eb : bs (mkS s) = s := by simp [bs, mkS]
  rw [eb] at p4 p5
  have l1 := zVe (T ++ F) (IntKind.i64.wrap (a + (out.length : Int))).toNat s.length s 0 ((zAu s).1 p4).1
  have h := wrN_le a (T := T) ps (out ++ (packN (T ++ F) (IntKind.i64.wrap (a + (out.length : Int))).toNat s.length s 0).1) (F ++ (packN (T ++ F) (IntKind.i64.wrap (a + (out.length : Int))).toNat s.length s 0).2) ((IntKind.i64.wrap (a + (out.length : Int))).toNat + (packN (T ++ F) (IntKind.i64.wrap (a + (out.length : Int))).toNat s.length s 0).1.length)
  simp only [sumL, List.flatMap_cons, aB] at h l1 ⊢; omega
theorem zVz {en : Nat} {T : List (Bl × Nat)} {a t : Int} {l : Bs} : (wrD en T a t l).2.1.length <= l.length := by
 unfold wrD
 split
 ·exact aH _
 rename_i h
 have h2 := (zLk (Decidable.not_not.1 h)).2.1
 have := wrN_le a (T := T) (pcsD t l) [] [] en
 simp only [List.length_nil, aS] at this
 omega
def askD (en : Nat) (T : List (Bl × Nat)) (a : Int) (n : ByteArray) (t c : Int) : Int × Bl × List (Bl × Nat) × Nat :=
 if (labels (bs n)).2 ≠ 0 then ((labels (bs n)).2, [], [], en)
 else if numB t 65535 && numB c 65535 then
  (if pnE en a n ≠ 0 then (pnE en a n, [], [], en)
   else let r := packN T a.toNat (bs n).length (bs n) 0
    (0, r.1 ++ by2 t.toNat ++ by2 c.toNat, r.2, a.toNat + r.1.length))
 else (5, [], [], en)
def recD (en : Nat) (T : List (Bl × Nat)) (a : Int) (x : RcX) : Int × Bl × List (Bl × Nat) × Nat :=
 if recC x ≠ 0 then (recC x, [], [], en)
 else let A := askD en T a x.n x.t x.c
  if A.1 ≠ 0 then (A.1, [], [], en)
  else let out := A.2.1 ++ by4 x.ttl.toNat
   let D := wrD A.2.2.2 (T ++ A.2.2.1) ((a.toNat + out.length + 2 : Nat) : Int) x.t (bs x.d)
   if D.1 ≠ 0 then (D.1, [], A.2.2.1 ++ D.2.2.1, D.2.2.2) else (0, out ++ by2 D.2.1.length ++ D.2.1, A.2.2.1 ++ D.2.2.1, D.2.2.2)
theorem zHq {en : Nat} {T : List (Bl × Nat)} {a : Int} {n : ByteArray} {t c : Int} (h : goodT T) : goodT (T ++ (askD en T a n t c).2.2.1) := by
 unfold askD
 split
 ·simpa using h
 split
 ·split
  ·simpa using h
  exact zBv h _ _ _ _
 simpa using h
theorem recD_good {en : Nat} {T : List (Bl × Nat)} {a : Int} {x : RcX} (h : goodT T) : goodT (T ++ (recD en T a x).2.2.1) := by
 unfold recD
 split
 ·simpa using h
 simp only []
 split
 ·simpa using h
 have h1 : goodT (T ++ (askD en T a x.n x.t x.c).2.2.1) := zHq h
 split
 ·show goodT (T ++ (_ ++ _)); rw [<- aN]; exact zVy h1
 show goodT (T ++ (_ ++ _)); rw [<- aN]; exact zVy h1
theorem zCk (b : Nat) {o : Bl} (h : o ≠ []) : ovN b o = sq b o.length U := by
 cases o with
 | nil => exact ab rfl h
 | cons u us => rfl
def PkFn (f : FuncId) (xs : List Value) (en : Nat) (T : List (Bl × Nat)) (ck : Nat) (R : Int × Bl × List (Bl × Nat) × Nat) : Prop :=
 ∃ r, FnS Try.prog 0 f (pt 0 :: xs) (heap 2 [(0, .cells [.map (some 1), .int .i64 (en : Int)] 98), (1, .map (encT T) ck)]) 2 r /\
  ∃ H m wr b, r = .ret (.tuple #[ovN b R.2.1, .int .i64 R.1]) H m wr /\ (R.2.1 ≠ [] -> 2 <= b /\ b < JJ /\ H.get b = some (.cells (R.2.1.map byV) 5)) /\ H.get 0 = some (.cells [.map (some 1), .int .i64 (R.2.2.2 : Int)] 98) /\ H.get 1 = some (.map (encT (T ++ R.2.2.1)) (ck + R.2.2.1.length))
structure PkY (Y : Type) where
 pb : Nat
 mb : Nat
 en : Nat
 T : List (Bl × Nat)
 ck : Nat
 y : Y
 e : Int
 o : Bl
 F : List (Bl × Nat)
 en' : Nat
noncomputable def ct_pk (f : FuncId) (Y : Type) (xs : Y -> List Value) (inj : ∀ y y', xs y = xs y' -> y = y') (pl : ∀ y, plainL (xs y) = true) (pre : Y -> Prop) (D : Nat -> List (Bl × Nat) -> Y -> Int × Bl × List (Bl × Nat) × Nat)
  (fn : ∀ (y : Y) (en : Nat) (T : List (Bl × Nat)) (ck : Nat), goodT T -> pre y -> PkFn f (xs y) en T ck (D en T y)) : Ct Try.prog 0 :=
 CtR.ct { f := f, X := PkY Y,
          pre := fun x as0 H _ => as0 = .pointer (some ⟨x.pb, 0, none⟩) :: xs x.y /\ H.get x.pb = some (.cells [.map (some x.mb), .int .i64 (x.en : Int)] 98) /\ H.get x.mb = some (.map (encT x.T) x.ck) /\ goodT x.T /\ pre x.y /\ D x.en x.T x.y = (x.e, x.o, x.F, x.en'),
          out := fun x H n => packO x.pb x.mb x.T x.ck x.e x.o x.F x.en' H n,
          tr := fun x H n K => frcN x.pb fun pb => frcN x.mb fun mb => K (packO pb mb x.T x.ck x.e x.o x.F x.en' H n),
          trOk := fun x H n K h => zQv h,
          ok := fun x as0 H n ⟨h1, h2, h3, h4, h5, h6⟩ => by
           subst h1
           obtain ⟨pb, mb, en, T, ck, y, e, o, F, en'⟩ := x
           obtain ⟨q1, q2, q3⟩ := packB h2 h3
           have hfn := fn y en T ck h4 h5
           have h6 : D en T y = (e, o, F, en') := h6
           rw [h6] at hfn
           obtain ⟨r, hF, H', m, wr, b, rfl, g1, g2, g3⟩ := hfn
           have := zJg (n := n) (hF.wr [0, 1]) q1 q2 (.cons _ _ _ _ (.ptr _ _ _ rfl) (zDe (pl y))) h2 h3 (by simp) (by simp) g1 g2 g3 q3
           cases o <;> exact this,
          uniq := fun x y as0 H n ⟨h1, h2, h3, _, _, h6⟩ ⟨k1, k2, k3, _, _, k6⟩ => by
           obtain ⟨pb, mb, en, T, ck, z, e, o, F, en1⟩ := x
           obtain ⟨pb', mb', en', T', ck', z', e', o', F', en1'⟩ := y
           rw [h1] at k1
           simp only [aQ, Value.pointer.injEq, aP, Addr.mk.injEq, and_true] at k1
           obtain ⟨rfl, k1⟩ := k1
           have := inj _ _ k1
           subst this
           obtain ⟨rfl, rfl, rfl, rfl⟩ := zQw h2 h3 k2 k3
           have := h6.symm.trans k6
           simp only [Prod.mk.injEq] at this
           obtain ⟨rfl, rfl, rfl, rfl⟩ := this
           rfl }
def RpFn0 (f : FuncId) (xs : List Value) (en : Nat) (R : Int × Bl × List (Bl × Nat) × Nat) : Prop :=
 ∃ r, FnS Try.prog 0 f (pt 0 :: xs) (heap 1 [(0, .cells [.slice none 0 0, .int .i64 (en : Int)] 74)]) 1 r /\
  ∃ H m wr b l, r = .ret (.tuple #[ovN b R.2.1, .int .i64 R.1]) H m wr /\ (R.2.1 ≠ [] -> 1 <= b /\ b < JJ /\ H.get b = some (.cells (R.2.1.map byV) 5)) /\ (R.2.2.1 = [] /\ H.get 0 = some (.cells [.slice none 0 0, .int .i64 (R.2.2.2 : Int)] 74) \/ R.2.2.1 ≠ [] /\ (1 <= l /\ l < JJ /\ (R.2.1 ≠ [] -> l ≠ b)) /\ H.get 0 = some (.cells [sq l R.2.2.1.length U, .int .i64 (R.2.2.2 : Int)] 74) /\ H.get l = some (.cells (R.2.2.1.flatMap layT.g) 130))
def RpFn1 (f : FuncId) (xs : List Value) (en : Nat) (T : List (Bl × Nat)) (R : Int × Bl × List (Bl × Nat) × Nat) : Prop :=
 ∃ r, FnS Try.prog 0 f (pt 0 :: xs) (heap 2 [(0, .cells [sq 1 T.length U, .int .i64 (en : Int)] 74), (1, .cells (T.flatMap layT.g) 130)]) 2 r /\
  ∃ H m wr b l, r = .ret (.tuple #[ovN b R.2.1, .int .i64 R.1]) H m wr /\ (R.2.1 ≠ [] -> 2 <= b /\ b < JJ /\ H.get b = some (.cells (R.2.1.map byV) 5)) /\ (R.2.2.1 = [] /\ l = 1 \/ R.2.2.1 ≠ [] /\ 2 <= l /\ l < JJ /\ (R.2.1 ≠ [] -> l ≠ b)) /\ H.get 0 = some (.cells [sq l (T ++ R.2.2.1).length U, .int .i64 (R.2.2.2 : Int)] 74) /\ H.get l = some (.cells ((T ++ R.2.2.1).flatMap layT.g) 130)
structure RpY (Y : Type) where
 pb : Nat
 v : Option Nat
 en : Nat
 T : List (Bl × Nat)
 y : Y
 e : Int
 o : Bl
 F : List (Bl × Nat)
 en' : Nat
noncomputable def ct_rpk (f : FuncId) (Y : Type) (xs : Y -> List Value) (inj : ∀ y y', xs y = xs y' -> y = y') (pl : ∀ y, plainL (xs y) = true) (pre : Y -> Prop) (D : Nat -> List (Bl × Nat) -> Y -> Int × Bl × List (Bl × Nat) × Nat) (bd : Nat)
  (fn0 : ∀ (y : Y) (en : Nat), pre y -> RpFn0 f (xs y) en (D en [] y)) (fn1 : ∀ (y : Y) (en : Nat) (T : List (Bl × Nat)), goodT T -> T ≠ [] -> T.length <= bd -> pre y -> RpFn1 f (xs y) en T (D en T y)) : Ct Try.prog 0 :=
 CtR.ct { f := f, X := RpY Y,
          pre := fun x as0 H _ => as0 = .pointer (some ⟨x.pb, 0, none⟩) :: xs x.y /\ H.get x.pb = some (.cells [rnV x.v x.T, .int .i64 (x.en : Int)] 74) /\ rnAt x.v x.T H /\ goodT x.T /\ x.T.length <= bd /\ pre x.y /\ D x.en x.T x.y = (x.e, x.o, x.F, x.en'),
          out := fun x H n => rwO x.pb x.v x.T x.e x.o x.F x.en' H n,
          tr := fun x H n K => frcN x.pb fun pb => match x.v with | none => K (rwO pb none x.T x.e x.o x.F x.en' H n) | some b => frcN b fun b => K (rwO pb (some b) x.T x.e x.o x.F x.en' H n),
          trOk := fun x H n K h => rwO_frc h,
          ok := fun x as0 H n ⟨h1, h2, h3, h4, h5, h6, h7⟩ => by
           subst h1
           obtain ⟨pb, v, en, T, y, e, o, F, en'⟩ := x
           have h7 : D en T y = (e, o, F, en') := h7
           cases v with
           | none =>
            have h3 : T = [] := h3
            subst h3
            obtain ⟨q1, q2, q3⟩ := rpackB0 h2
            have hfn := fn0 y en h6
            rw [h7] at hfn
            obtain ⟨r, hF, H', m, wr, b, l, rfl, g1, g2⟩ := hfn
            have := zHd (n := n) (hF.wr [0]) q1 q2 (.cons _ _ _ _ (.ptr _ _ _ rfl) (zDe (pl y))) h2 (by simp) g1 rfl g2 q3
            cases F <;> cases o <;> exact this
           | some b =>
            obtain ⟨h3, hT0⟩ := h3
            obtain ⟨q1, q2, q3⟩ := rpackB h2 h3
            have hfn := fn1 y en T h4 hT0 h5 h6
            rw [h7] at hfn
            obtain ⟨r, hF, H', m, wr, b', l, rfl, g1, gl, g2, g3⟩ := hfn
            have := zHe (n := n) (hF.wr [0, 1]) q1 q2 (.cons _ _ _ _ (.ptr _ _ _ rfl) (zDe (pl y))) h2 h3 (by simp) (by simp) g1 gl g2 g3 q3
            cases F <;> cases o <;> exact this,
          uniq := fun x y as0 H n ⟨h1, h2, h3, _, _, _, h6⟩ ⟨k1, k2, k3, _, _, _, k6⟩ => by
           obtain ⟨pb, v, en, T, z, e, o, F, en1⟩ := x
           obtain ⟨pb', v', en', T', z', e', o', F', en1'⟩ := y
           rw [h1] at k1
           simp only [aQ, Value.pointer.injEq, aP, Addr.mk.injEq, and_true] at k1
           obtain ⟨rfl, k1⟩ := k1
           have := inj _ _ k1
           subst this
           obtain ⟨rfl, rfl, rfl⟩ := rn_pre h2 k2 h3 k3
           have := h6.symm.trans k6
           simp only [Prod.mk.injEq] at this
           obtain ⟨rfl, rfl, rfl, rfl⟩ := this
           rfl }
theorem zEr {x : RcX} (h : recC x = 0) : (labels (bs x.n)).2 = 0 /\ numB x.t 65535 = true /\ numB x.c 65535 = true /\ numB x.ttl 2147483647 = true /\ checkD x.t (bs x.d) = 0 := by
 unfold recC at h
 split at h
 ·rename_i h1; exact ab h h1
 rename_i h1
 split at h
 ·rename_i h2
  simp only [bA] at h2
  exact ⟨by simpa using h1, h2.1.1, h2.1.2, h2.2, h⟩
 cases h
def RcX.g (x : RcX) : List Value := [.string x.n, .int .i64 x.t, .int .i64 x.c, .int .i64 x.ttl, .string x.d]
def layR : Lay RcX where
 g := RcX.g
 k := 5
 t := 69
 len _ := rfl
 pos := by decide
 plain _ := rfl
 inj x y h := by
  obtain ⟨n, t, c, l, d⟩ := x
  obtain ⟨n', t', c', l', d'⟩ := y
  simp only [RcX.g, aQ, Value.string.injEq, Value.int.injEq, true_and, and_true] at h
  obtain ⟨rfl, rfl, rfl, rfl, rfl⟩ := h; rfl
def bigR (n : Int) (x : RcX) : Bool := decide ((x.n.data.size : Int) > n) || decide ((x.d.data.size : Int) > n)
noncomputable def inl_twos : Ct Try.prog 0 := Ct.inl (tbOf mixed [zNy]) mixed [] 71 Try.f71 Try.func71 (bodyOf Try.f71) (by kernel_rfl)
noncomputable def inl_rnone : Ct Try.prog 0 := Ct.inl (tbOf mixed [zNx]) mixed [] 68 Try.f68 Try.func68 (bodyOf Try.f68) (by kernel_rfl)
noncomputable def tbWr7 : Tb Try.prog 0 := tbOf mixed [inl_rnone, zHt, zPz, zKr, zNx, inl_twos, ct_put32, ct_write]
theorem zDd {n m : Int} (h : numB n m = true) : ∃ k : Nat, n = (k : Int) /\ (k : Int) <= m := by
 unfold numB at h
 have h := oT h
 exact ⟨n.toNat, by omega, by omega⟩
theorem zVn (en : Nat) (T : List (Bl × Nat)) : pnR en T (-1) (mkS [0]) true [] [] := ⟨by rw [zVj]; rfl, fun h => by cases h⟩
structure AskY where
 a : Int
 n : ByteArray
 t : Int
 c : Int
def AskY.xs (y : AskY) : List Value := [.int .i64 y.a, .agg #[.string y.n, .int .i64 y.t, .int .i64 y.c]]
theorem AskY.inj (y z : AskY) (h : y.xs = z.xs) : y = z := by
 obtain ⟨a, n, t, c⟩ := y
 obtain ⟨a', n', t', c'⟩ := z
 simp only [AskY.xs, aQ, Value.int.injEq, Value.agg.injEq, Array.mk.injEq, Value.string.injEq, true_and, and_true] at h
 obtain ⟨rfl, rfl, rfl, rfl⟩ := h; rfl
def AskY.D (en : Nat) (T : List (Bl × Nat)) (y : AskY) : Int × Bl × List (Bl × Nat) × Nat := askD en T y.a y.n y.t y.c
theorem ask_fn (y : AskY) (en : Nat) (T : List (Bl × Nat)) (ck : Nat) (hT : goodT T) (hs : shortB y.n = true) : PkFn 45 y.xs en T ck (y.D en T) := by
 obtain ⟨a, n, t, c⟩ := y
 have h1s : (Try.prog.types[5]).size = 1 := by kernel_rfl
 have hby : (Try.prog.types[5]).bytes = 1 := by kernel_rfl
 refine zBh mixed tbWr7 [1] Try.func45 (c := bodyOf Try.f45) (by kernel_rfl) ?_
 refine eI (⟨0, 1, en, T, ck, -1, mkS [0], true, [], []⟩ : PkX) (aI ⟨rfl, rfl, (show Tr.get _ 1 = some (AObj.map (encT T) ck) from rfl), hT, rfl, zVn en T⟩ ?_)
 refine aI hs ?_
 unfold AskY.D askD
 refine ifK (fun g => ?_) (fun g => ?_)
 ·have g : (labels (bs n)).2 ≠ 0 := by simpa using g
  rw [if_pos g]
  exact ⟨_, _, _, 0, rfl, fun h => ab rfl h, rfl, by rw [aF]; rfl⟩
 have g : ¬ (labels (bs n)).2 ≠ 0 := by simpa using g
 rw [if_neg g]
 refine ifK (fun g2 => ?_) (fun g2 => ?_)
 ·rw [show numB t 65535 = false by simpa using g2]
  exact ⟨_, _, _, 0, rfl, fun h => ab rfl h, rfl, by show some (AObj.map (encT T) ck) = _; simp⟩
 have k2 : numB t 65535 = true := by simpa using g2
 rw [k2]
 refine ifK (fun g3 => ?_) (fun g3 => ?_)
 ·rw [show numB c 65535 = false by simpa using g3]
  exact ⟨_, _, _, 0, rfl, fun h => ab rfl h, rfl, by show some (AObj.map (encT T) ck) = _; simp⟩
 have k3 : numB c 65535 = true := by simpa using g3
 clear g2 g3
 rw [k3, show (true && true) = true from rfl, if_pos rfl]
 by_cases he : pnE en a n ≠ 0
 ·rw [if_pos he]
  refine eI (⟨0, 1, en, T, ck, a, n, true, [], []⟩ : PkX) (aI ⟨rfl, rfl, (show Tr.get _ 1 = some (AObj.map (encT T) ck) from rfl), hT, hs, (aX he).symm, fun h => by cases h⟩ ?_)
  refine ifK (fun _ => ?_) (fun g => ab (show pnE en a n = 0 by simpa using g) he)
  exact ⟨_, _, _, 0, rfl, fun h => ab rfl h, rfl, by show some (AObj.map (encT T) ck) = _; simp⟩
 rw [if_neg he]
 have he0 : pnE en a n = 0 := Decidable.not_not.1 he
 obtain ⟨⟨p1, p2⟩, p3, p4, p5⟩ := zCr he0
 obtain ⟨r, hr⟩ : ∃ r, packN T a.toNat (bs n).length (bs n) 0 = r := ⟨_, rfl⟩
 have hl1 := zAw T a.toNat (bs n).length (bs n) 0
 rw [hr] at hl1 ⊢
 obtain ⟨o, F⟩ := r
 have hl1 : o.length <= 257 := by have : o.length <= (bs n).length + 2 := hl1; omega
 obtain ⟨t, rfl, ht⟩ := zDd k2
 obtain ⟨c, rfl, hc⟩ := zDd k3
 refine eI (⟨0, 1, en, T, ck, a, n, false, o, F⟩ : PkX) (aI ⟨rfl, rfl, (show Tr.get _ 1 = some (AObj.map (encT T) ck) from rfl), hT, hs, (aY he).symm, fun _ => hr⟩ ?_)
 refine eI t (aI ⟨rfl, by omega⟩ ?_)
 refine eI c (aI ⟨rfl, by omega⟩ ?_)
 refine aI (by kernel_rfl) ?_
 refine aI (by rw [h1s, hby]; simp only [bA, dT]; exact ⟨⟨⟨⟨⟨⟨rfl, rfl⟩, bL (by simp)⟩, rfl⟩, (by omega)⟩, (by omega)⟩, bL (by simp)⟩) ?_
 have hne : o ++ by2 t ++ by2 c ≠ [] := by simp [by2]
 have hv : sq 9 (o.length + (2 + 2)) U = ovN 9 (o ++ by2 t ++ by2 c) := by rw [zCk 9 hne]; simp [by2]
 have hc : (List.take (o.length * 1) (o.map byV) ++ [byV (hi8 t), byV (lo8 t), byV (hi8 c), byV (lo8 c)]) = (o ++ by2 t ++ by2 c).map byV := by rw [aR, aD (by simp)]; simp [by2]
 refine ⟨_, _, _, 9, congrArg (fun v => Res.ret (.tuple #[v, .int .i64 0]) _ _ _) hv, fun _ => ⟨by decide, by decide, ?_⟩, rfl, rfl⟩
 exact congrArg (fun l => some (AObj.cells l _)) hc
structure WrtY where
 a : Int
 x : RcX
def WrtY.xs (y : WrtY) : List Value := [.int .i64 y.a, y.x.v]
theorem WrtY.inj (y z : WrtY) (h : y.xs = z.xs) : y = z := by
 obtain ⟨a, n, t, c, w, d⟩ := y
 obtain ⟨a', n', t', c', w', d'⟩ := z
 simp only [WrtY.xs, RcX.v, aQ, Value.int.injEq, Value.agg.injEq, Array.mk.injEq, Value.string.injEq, true_and, and_true] at h
 obtain ⟨rfl, rfl, rfl, rfl, rfl, rfl⟩ := h; rfl
def WrtY.D (en : Nat) (T : List (Bl × Nat)) (y : WrtY) : Int × Bl × List (Bl × Nat) × Nat := recD en T y.a y.x
theorem recD_pn {en : Nat} {T : List (Bl × Nat)} {a : Int} {x : RcX} (h : recC x = 0) (he : pnE en a x.n ≠ 0) : recD en T a x = (pnE en a x.n, [], [], en) := by
 obtain ⟨z1, z2, z3, z4, z5⟩ := zEr h
 unfold recD askD
 rw [if_neg (aL h), if_neg (aL z1), z2, z3, show (true && true) = true from rfl, if_pos rfl, if_pos he]
 simp only []
 rw [if_pos he]
theorem recD_ok {en : Nat} {T : List (Bl × Nat)} {k : Nat} {x : RcX} {o : Bl} {F : List (Bl × Nat)} (h : recC x = 0) (he : pnE en k x.n = 0) (hr : packN T k (bs x.n).length (bs x.n) 0 = (o, F)) {R : Int × Bl × List (Bl × Nat) × Nat} (hR : wrD (k + o.length) (T ++ F) ((k + (o.length + 8) + 2 : Nat) : Int) x.t (bs x.d) = R) :
  recD en T k x = if R.1 ≠ 0 then (R.1, [], F ++ R.2.2.1, R.2.2.2) else (0, (o ++ by2 x.t.toNat ++ by2 x.c.toNat ++ by4 x.ttl.toNat) ++ by2 R.2.1.length ++ R.2.1, F ++ R.2.2.1, R.2.2.2) := by
 obtain ⟨z1, z2, z3, z4, z5⟩ := zEr h
 have hl : (o ++ by2 x.t.toNat ++ by2 x.c.toNat ++ by4 x.ttl.toNat).length = o.length + 8 := by simp [by2, by4]
 unfold recD askD
 rw [if_neg (aL h), if_neg (aL z1), z2, z3, show (true && true) = true from rfl, if_pos rfl, if_neg (aL he), aO, hr]
 simp only []
 rw [if_neg (aL rfl), hl, hR]
theorem wrN_e (a : Int) {T : List (Bl × Nat)} : ∀ (ps : List (Bs × Bool)) (out : Bl) (F : List (Bl × Nat)) (en : Nat), (wrN a T ps out F en).1 ≠ 0 -> (wrN a T ps out F en).2.1 = []
 | [], _, _, _ => fun h => ab rfl h
 | (s, false) :: ps, out, F, en => by unfold wrN; exact wrN_e a ps _ _ _
 | (s, true) :: ps, out, F, en => by
  unfold wrN
  simp only []
  split
  ·exact fun _ => rfl
  exact wrN_e a ps _ _ _
theorem wrD_e {en : Nat} {T : List (Bl × Nat)} {a t : Int} {l : Bs} : (wrD en T a t l).1 ≠ 0 -> (wrD en T a t l).2.1 = [] := by
 unfold wrD
 split
 ·exact fun _ => rfl
 exact wrN_e _ _ _ _ _
theorem recw_fn (y : WrtY) (en : Nat) (T : List (Bl × Nat)) (ck : Nat) (hT : goodT T) (hs : y.x.ok = true) : PkFn 47 y.xs en T ck (y.D en T) := by
 obtain ⟨a, x⟩ := y
 have hs : x.ok = true := hs
 have h1s : (Try.prog.types[5]).size = 1 := by kernel_rfl
 have hby : (Try.prog.types[5]).bytes = 1 := by kernel_rfl
 obtain ⟨hn, hd⟩ := RcX.ok1 hs
 have hsh : shortB x.n = true := zCu (by omega)
 have hdh : shortB x.d = true := zCu (by omega)
 unfold WrtY.D
 obtain ⟨n, t, c, w, d⟩ := x
 have hd : (bs d).length <= 100000000 := hd
 refine zBh mixed tbWr7 [1, 12] Try.func47 (c := bodyOf Try.f47) (by kernel_rfl) ?_
 refine eI (⟨0, 1, en, T, ck, -1, mkS [0], true, [], []⟩ : PkX) (aI ⟨rfl, rfl, (show Tr.get _ 1 = some (AObj.map (encT T) ck) from rfl), hT, rfl, zVn en T⟩ ?_)
 refine aI hs ?_
 refine ifK (fun g => ?_) (fun g => ?_)
 ·have g : recC ⟨n, t, c, w, d⟩ ≠ 0 := by simpa using g
  unfold recD
  rw [if_pos g]
  exact ⟨_, _, _, 0, rfl, fun h => ab rfl h, rfl, by show some (AObj.map (encT T) ck) = _; simp⟩
 have gz : recC ⟨n, t, c, w, d⟩ = 0 := by simpa using g
 clear g
 by_cases he : pnE en a n ≠ 0
 ·refine eI (⟨0, 1, en, T, ck, a, n, true, [], []⟩ : PkX) (aI ⟨rfl, rfl, (show Tr.get _ 1 = some (AObj.map (encT T) ck) from rfl), hT, hsh, (aX he).symm, fun h => by cases h⟩ ?_)
  refine ifK (fun _ => ?_) (fun g => ab (show pnE en a n = 0 by simpa using g) he)
  have e1 : recD en T a ⟨n, t, c, w, d⟩ = _ := recD_pn gz he
  simp only [e1]
  exact ⟨_, _, _, 0, rfl, fun h => ab rfl h, rfl, by show some (AObj.map (encT T) ck) = _; simp⟩
 have he0 : pnE en a n = 0 := Decidable.not_not.1 he
 obtain ⟨⟨p1, p2⟩, p3, p4, p5⟩ := zCr he0
 obtain ⟨k, rfl⟩ : ∃ k : Nat, a = (k : Int) := ⟨a.toNat, by omega⟩
 obtain ⟨r, hr⟩ : ∃ r, packN T k (bs n).length (bs n) 0 = r := ⟨_, rfl⟩
 have hl1 := zAw T k (bs n).length (bs n) 0
 have hgd := zBv hT k (bs n).length (bs n) 0
 rw [hr] at hl1 hgd
 obtain ⟨o, F⟩ := r
 have hl1 : o.length <= 257 := by have : o.length <= (bs n).length + 2 := hl1; omega
 obtain ⟨R, hR⟩ : ∃ R, wrD (k + o.length) (T ++ F) ((k + (o.length + 8) + 2 : Nat) : Int) t (bs d) = R := ⟨_, rfl⟩
 have e1 : recD en T k ⟨n, t, c, w, d⟩ = _ := recD_ok gz he0 hr hR
 simp only [e1]
 obtain ⟨z1, z2, z3, z4, z5⟩ := zEr gz
 obtain ⟨t, rfl, ht⟩ := zDd z2
 obtain ⟨c, rfl, hc⟩ := zDd z3
 obtain ⟨w, rfl, hw⟩ := zDd z4
 have hle := zVz (en := k + o.length) (T := T ++ F) (a := ((k + (o.length + 8) + 2 : Nat) : Int)) (t := (t : Int)) (l := bs d)
 have hld := (zCm z5).2.2.1
 rw [hR] at hle
 obtain ⟨e2, o2, F2, en2⟩ := R
 have hl2 : o2.length <= 65535 := aW hle hld
 clear hle
 refine eI (⟨0, 1, en, T, ck, k, n, false, o, F⟩ : PkX) (aI ⟨rfl, rfl, (show Tr.get _ 1 = some (AObj.map (encT T) ck) from rfl), hT, hsh, (aY he).symm, fun _ => hr⟩ ?_)
 refine eI w (aI ⟨rfl, by omega⟩ ?_)
 refine eI t (aI ⟨rfl, by omega⟩ ?_)
 refine eI c (aI ⟨rfl, by omega⟩ ?_)
 refine aI (by kernel_rfl) ?_
 refine aI (by rw [h1s, hby]; simp only [bA, dT]; exact ⟨⟨⟨⟨⟨⟨rfl, rfl⟩, bL (by simp)⟩, rfl⟩, (by omega)⟩, (by omega)⟩, bL (by simp)⟩) ?_
 refine aI (by rw [h1s, hby]; simp only [bA, dT]; exact ⟨⟨⟨⟨⟨⟨rfl, rfl⟩, bL (by simp)⟩, rfl⟩, (by omega)⟩, (by omega)⟩, bL (by simp [by4])⟩) ?_
 have hat : IntKind.i64.wrap (IntKind.i64.wrap ((k : Int) + ((o.length + (2 + 2) + 4 : Nat) : Int)) + 2) = ((k + (o.length + 8) + 2 : Nat) : Int) := by
  have i1 : IntKind.i64.wrap ((k : Int) + ((o.length + (2 + 2) + 4 : Nat) : Int)) = ((k + (o.length + 8) : Nat) : Int) := by rw [wrapN (by omega) (by omega)]; omega
  rw [i1, wrapN (by omega) (by omega)]; omega
 have hm : (AObj.map (encT ((T ++ F) ++ F2)) (ck + F.length + F2.length)) = AObj.map (encT (T ++ (F ++ F2))) (ck + (F ++ F2).length) := by rw [aN, aB, Nat.add_assoc]
 refine eI (⟨0, 1, k + o.length, T ++ F, ck + F.length, ((k + (o.length + 8) + 2 : Nat) : Int), t, d, e2, o2, F2, en2⟩ : WrX) (aI ⟨by rw [<- hat] <;> rfl, rfl, (show Tr.get _ 1 = some (AObj.map (encT (T ++ F)) (ck + F.length)) from rfl), hgd, hdh, hR⟩ ?_)
 cases o2 with
 | nil =>
  refine ifK (fun h2 => ?_) (fun h2 => ?_)
  ·have h2 : e2 ≠ 0 := by simpa using h2
   rw [if_pos h2]
   exact ⟨_, _, _, 0, rfl, fun h => ab rfl h, rfl, congrArg some hm⟩
  have h2 : e2 = 0 := by simpa using h2
  subst h2
  rw [if_neg (aL rfl)]
  refine eI 0 (aI ⟨rfl, by decide⟩ ?_)
  refine aI (by rw [h1s, hby]; simp only [bA, dT]; exact ⟨⟨⟨⟨⟨⟨rfl, rfl⟩, bL (by simp [by4] <;> omega)⟩, rfl⟩, (by simp <;> omega)⟩, (by simp <;> omega)⟩, bL (by simp [by4] <;> omega)⟩) ?_
  have hne : (o ++ by2 t ++ by2 c ++ by4 w) ++ by2 0 ++ [] ≠ [] := by simp [by2]
  have hv : sq 15 (o.length + (2 + 2) + 4 + 2) U = ovN 15 ((o ++ by2 t ++ by2 c ++ by4 w) ++ by2 0 ++ []) := by rw [zCk 15 hne]; simp [by2, by4]
  refine ⟨_, _, _, 15, congrArg (fun v => Res.ret (.tuple #[v, .int .i64 0]) _ _ _) hv, fun _ => ⟨by decide, by decide, ?_⟩, rfl, congrArg some hm⟩
  refine (show some (AObj.cells _ _) = some (AObj.cells _ _) from congrArg (fun l => some (AObj.cells l _)) ?_)
  simp [h1s, by2, by4, aD, List.take_append]
 | cons u us =>
  have h2 : e2 = 0 := by
   have := wrD_e (en := k + o.length) (T := T ++ F) (a := ((k + (o.length + 8) + 2 : Nat) : Int)) (t := (t : Int)) (l := bs d)
   rw [hR] at this
   exact Decidable.byContradiction fun h => by cases this h
  subst h2
  rw [if_neg (aL rfl)]
  have hle : us.length + 1 <= 65535 := hl2
  refine eI (us.length + 1) (aI ⟨rfl, by omega⟩ ?_)
  refine aI (by rw [h1s, hby]; simp only [bA, dT]; exact ⟨⟨⟨⟨⟨⟨rfl, rfl⟩, bL (by simp [by4] <;> omega)⟩, rfl⟩, (by simp <;> omega)⟩, (by simp <;> omega)⟩, bL (by simp [by4] <;> omega)⟩) ?_
  refine eI ((u :: us).map byV) (aI (zAi (l := u :: us) h1s rfl) ?_)
  have hone : oneL ((u :: us).map byV) = true := oneB _
  refine aI (by rw [h1s, hby]; simp only [bA, dT]; exact ⟨⟨⟨⟨⟨⟨rfl, rfl⟩, bL (by simp [by4] <;> omega)⟩, hone⟩, (by simp <;> omega)⟩, (by simp <;> omega)⟩, bL (by simp [by4] <;> omega)⟩) ?_
  have hne : (o ++ by2 t ++ by2 c ++ by4 w) ++ by2 (us.length + 1) ++ u :: us ≠ [] := by simp [by2]
  have hv : sq 17 (o.length + (2 + 2) + 4 + 2 + (us.length + 1)) U = ovN 17 ((o ++ by2 t ++ by2 c ++ by4 w) ++ by2 (us.length + 1) ++ u :: us) := by rw [zCk 17 hne]; simp [by2, by4]; omega
  refine ⟨_, _, _, 17, congrArg (fun v => Res.ret (.tuple #[v, .int .i64 0]) _ _ _) hv, fun _ => ⟨by decide, by decide, ?_⟩, rfl, congrArg some hm⟩
  refine (show some (AObj.cells _ _) = some (AObj.cells _ _) from congrArg (fun l => some (AObj.cells l _)) ?_)
  simp [h1s, by2, by4, aD, List.take_append]
deriving instance DecidableEq for RcX
structure QuX where
 n : ByteArray
 t : Int
 c : Int
 deriving DecidableEq
def QuX.v (x : QuX) : Value := .agg #[.string x.n, .int .i64 x.t, .int .i64 x.c]
def QuX.g (x : QuX) : List Value := [.string x.n, .int .i64 x.t, .int .i64 x.c]
def layQ : Lay QuX where
 g := QuX.g
 k := 3
 t := 57
 len _ := rfl
 pos := by decide
 plain _ := rfl
 inj x y h := by
  obtain ⟨n, t, c⟩ := x
  obtain ⟨n', t', c'⟩ := y
  simp only [QuX.g, aQ, Value.string.injEq, Value.int.injEq, true_and, and_true] at h
  obtain ⟨rfl, rfl, rfl⟩ := h; rfl
theorem struct_q : structOk Try.prog 57 = true := by kernel_rfl
theorem struct_r : structOk Try.prog 69 = true := by kernel_rfl
def bigQ (y : Int) (x : QuX) : Bool := decide ((x.n.data.size : Int) > y)
noncomputable def inl_num : Ct Try.prog 0 := Ct.inl (tbOf mixed []) mixed [] 51 Try.f51 Try.func51 (bodyOf Try.f51) (by kernel_rfl)
noncomputable def zQo : Ct Try.prog 0 := Ct.inl (tbOf mixed []) mixed [] 46 Try.f46 Try.func46 (bodyOf Try.f46) (by kernel_rfl)
noncomputable def tbMs4 : Tb Try.prog 0 := tbOf mixed [inl_num, zQo, zHt, zKr]
def firstE {α : Type} (f : α -> Int) : List α -> Int
 | [] => 0
 | x :: l => if f x ≠ 0 then f x else firstE f l
theorem zDi {α : Type} (f : α -> Int) (l : List α) (i : Nat) (h : i < l.length) : firstE f (l.drop i) = if f l[i] ≠ 0 then f l[i] else firstE f (l.drop (i + 1)) := by
 rw [bD h]; rfl
theorem zDt {α : Type} (f : α -> Int) (l : List α) (i : Nat) (h : l.length <= i) : firstE f (l.drop i) = 0 := by rw [bE h]; rfl
def quC (x : QuX) : Int := if (labels (bs x.n)).2 ≠ 0 then (labels (bs x.n)).2 else if numB x.t 65535 && numB x.c 65535 then 0 else 5
def msC (id fl : Int) (q : List QuX) (an ns ar : List RcX) : Int :=
 if (numB id 65535 && numB fl 65535) = false then 5
 else if (numB q.length 65535 && (numB an.length 65535 && (numB ns.length 65535 && numB ar.length 65535))) = false then 3
 else if firstE quC q ≠ 0 then firstE quC q
 else if firstE recC an ≠ 0 then firstE recC an
 else if firstE recC ns ≠ 0 then firstE recC ns
 else firstE recC ar
theorem zFc {x n : Int} (h1 : decide (x >= 0) = true) (h2 : (!decide (x <= n)) = false) : numB x n = true := by
 have h1 := oT h1
 simp only [Bool.not_eq_false', decide_eq_true_iff] at h2
 unfold numB; rw [decide_eq_true_iff]; exact ⟨h1, h2⟩
theorem zFx {x n : Int} (h1 : decide (x >= 0) = false) : numB x n = false := by
 have h1 := oF h1
 unfold numB; rw [decide_eq_false_iff_not]; omega
theorem zCq {x n : Int} (h2 : (!decide (x <= n)) = true) : numB x n = false := by
 simp only [Bool.not_eq_true', decide_eq_false_iff_not] at h2
 unfold numB; rw [decide_eq_false_iff_not]; omega
theorem zEe {x : Nat} {n : Int} (h2 : (!decide ((x : Int) <= n)) = false) : numB (x : Int) n = true := zFc (aX (Int.natCast_nonneg _)) h2
theorem mw_ask (en : Nat) (T : List (Bl × Nat)) (a : Int) (n : ByteArray) (t c : Int) (R : Int × Bl × List (Bl × Nat) × Nat) (hR : askD en T a n t c = R) : R.2.1.length <= 300 /\ R.2.2.1.length <= 300 /\ (R.1 = 0 -> R.2.1 ≠ []) /\ (R.1 ≠ 0 -> R.2.1 = []) := by
 subst hR
 unfold askD
 split
 ·rename_i h; exact ⟨aH _, aH _, fun e => ab e h, fun _ => rfl⟩
 split
 ·split
  ·rename_i h; exact ⟨aH _, aH _, fun e => ab e h, fun _ => rfl⟩
  rename_i he
  obtain ⟨_, _, p4, p5⟩ := zCr (Decidable.not_not.1 he)
  have h1 := zAw T a.toNat (bs n).length (bs n) 0
  have h2 := zBd T a.toNat (bs n).length (bs n) 0
  have h3 : ∀ k, (by2 k).length = 2 := fun _ => rfl
  refine ⟨?_, ?_, fun _ e => ?_, fun h => ab rfl h⟩
  ·show ((packN T a.toNat (bs n).length (bs n) 0).1 ++ by2 t.toNat ++ by2 c.toNat).length <= 300
   rw [aB, aB, h3, h3]; omega
  ·show (packN T a.toNat (bs n).length (bs n) 0).2.length <= 300
   omega
  have e : (packN T a.toNat (bs n).length (bs n) 0).1 ++ by2 t.toNat ++ by2 c.toNat = [] := e
  have := congrArg List.length e
  rw [aB, aB, h3, h3] at this
  simp at this
 exact ⟨aH _, aH _, fun e => ab (show (5 : Int) = 0 from e) (by decide), fun _ => rfl⟩
theorem mw_rec (en : Nat) (T : List (Bl × Nat)) (a : Int) (x : RcX) (R : Int × Bl × List (Bl × Nat) × Nat) (hR : recD en T a x = R) : R.2.1.length <= 70000 /\ R.2.2.1.length <= 2000 /\ (R.1 = 0 -> R.2.1 ≠ []) /\ (R.1 ≠ 0 -> R.2.1 = []) := by
 subst hR
 unfold recD
 split
 ·rename_i h; exact ⟨aH _, aH _, fun e => ab e h, fun _ => rfl⟩
 rename_i hc
 have hc := Decidable.not_not.1 hc
 obtain ⟨_, _, _, _, hcd⟩ := zEr hc
 simp only []
 obtain ⟨A, hA⟩ : ∃ A, askD en T a x.n x.t x.c = A := ⟨_, rfl⟩
 obtain ⟨a1, a2, a3, a4⟩ := mw_ask _ _ _ _ _ _ A hA
 rw [hA]
 split
 ·rename_i h; exact ⟨aH _, aH _, fun e => ab e h, fun _ => rfl⟩
 obtain ⟨D, hD⟩ : ∃ D, wrD A.2.2.2 (T ++ A.2.2.1) ((a.toNat + (A.2.1 ++ by4 x.ttl.toNat).length + 2 : Nat) : Int) x.t (bs x.d) = D := ⟨_, rfl⟩
 have h4 : ∀ k, (by4 k).length = 4 := fun _ => rfl
 have h3 : ∀ k, (by2 k).length = 2 := fun _ => rfl
 obtain ⟨k1, k2, k3, k4⟩ := zLk hcd
 have h1 : D.2.1.length <= 65535 := by
  have := zVz (en := A.2.2.2) (T := T ++ A.2.2.1) (a := ((a.toNat + (A.2.1 ++ by4 x.ttl.toNat).length + 2 : Nat) : Int)) (t := x.t) (l := bs x.d)
  rw [hD] at this; omega
 have h2 : D.2.2.1.length <= 1000 := by
  rw [<- hD]
  unfold wrD
  split
  ·exact aH _
  obtain ⟨q1, q2, q3⟩ := zTz ((a.toNat + (A.2.1 ++ by4 x.ttl.toNat).length + 2 : Nat) : Int) (T := T ++ A.2.2.1) (pcsD x.t (bs x.d)) [] [] A.2.2.2 (fun s hs => (k1 s hs).2)
  simp only [List.length_nil] at q1 q2
  omega
 rw [hD]
 split
 ·rename_i h
  exact ⟨aH _, by show (A.2.2.1 ++ D.2.2.1).length <= _; rw [aB]; omega, fun e => ab e h, fun _ => rfl⟩
 refine ⟨?_, by show (A.2.2.1 ++ D.2.2.1).length <= _; rw [aB]; omega, fun _ e => ?_, fun h => ab rfl h⟩
 ·show (A.2.1 ++ by4 x.ttl.toNat ++ by2 D.2.1.length ++ D.2.1).length <= 70000
  rw [aB, aB, aB, h4, h3]; omega
 have e : A.2.1 ++ by4 x.ttl.toNat ++ by2 D.2.1.length ++ D.2.1 = [] := e
 have := congrArg List.length e
 rw [aB, aB, aB, h4, h3] at this
 simp at this
structure MwS where
 out : Bl
 T : List (Bl × Nat)
 en : Nat
abbrev MwI := QuX ⊕ RcX
def mwD (s : MwS) : MwI -> Int × Bl × List (Bl × Nat) × Nat
 | .inl q => askD s.en s.T (s.out.length : Int) q.n q.t q.c
 | .inr x => recD s.en s.T (s.out.length : Int) x
theorem zFb (s : MwS) (x : MwI) {R : Int × Bl × List (Bl × Nat) × Nat} (hR : mwD s x = R) : R.2.1.length <= 70000 /\ R.2.2.1.length <= 2000 /\ (R.1 = 0 -> R.2.1 ≠ []) /\ (R.1 ≠ 0 -> R.2.1 = []) /\ (goodT s.T -> goodT (s.T ++ R.2.2.1)) := by
 cases x with
 | inl q => obtain ⟨h1, h2, h3, h4⟩ := mw_ask _ _ _ _ _ _ R hR; exact ⟨by omega, by omega, h3, h4, fun h => hR ▸ zHq h⟩
 | inr x => obtain ⟨h1, h2, h3, h4⟩ := mw_rec _ _ _ _ R hR; exact ⟨h1, h2, h3, h4, fun h => hR ▸ recD_good h⟩
def mwN (s : MwS) (R : Int × Bl × List (Bl × Nat) × Nat) : MwS := ⟨s.out ++ R.2.1, s.T ++ R.2.2.1, R.2.2.2⟩
def mwF : MwS -> List MwI -> Option MwS
 | s, [] => some s
 | s, x :: l => if (mwD s x).1 ≠ 0 \/ 65535 < (mwN s (mwD s x)).out.length then none else mwF (mwN s (mwD s x)) l
structure mwInv (s0 : MwS) (l : List MwI) (k : Nat) (s : MwS) : Prop where
 lo : 1 <= s.out.length
 hi : s.out.length <= 12 + 70000 * k
 tl : s.T.length <= 2000 * k
 gd : goodT s.T
 st : (s.out.length <= 65535 /\ mwF s0 l = mwF s (l.drop k)) \/ (65535 < s.out.length /\ mwF s0 l = none)
theorem zOs {s : MwS} {l : List MwI} {k : Nat} (h : k < l.length) : mwF s (l.drop k) = if (mwD s l[k]).1 ≠ 0 \/ 65535 < (mwN s (mwD s l[k])).out.length then none else mwF (mwN s (mwD s l[k])) (l.drop (k + 1)) := by
 rw [bD h]; rfl
theorem mwInv.bad {s0 : MwS} {l : List MwI} {k : Nat} {s : MwS} (h : mwInv s0 l k s) (hk : k < l.length) {R : Int × Bl × List (Bl × Nat) × Nat} (hR : mwD s l[k] = R) (he : R.1 ≠ 0) : mwF s0 l = none := by
 rcases h.st with ⟨_, e⟩ | ⟨_, e⟩
 ·rw [e, zOs hk, hR, if_pos (.inl he)]
 exact e
theorem mwInv.long {s0 : MwS} {l : List MwI} {k : Nat} {s : MwS} (h : mwInv s0 l k s) (he : 65535 < s.out.length) : mwF s0 l = none := by
 rcases h.st with ⟨q, e⟩ | ⟨_, e⟩
 ·omega
 exact e
theorem mwInv.next {s0 : MwS} {l : List MwI} {k : Nat} {s : MwS} (h : mwInv s0 l k s) (hk : k < l.length) {R : Int × Bl × List (Bl × Nat) × Nat} (hR : mwD s l[k] = R) (he : R.1 = 0) : mwInv s0 l (k + 1) (mwN s R) := by
 obtain ⟨r1, r2, r3, r4, r5⟩ := zFb s l[k] hR
 have hl : (mwN s R).out.length = s.out.length + R.2.1.length := aB
 have h1 := h.hi
 have h2 := h.tl
 have h3 := h.lo
 refine ⟨by omega, by omega, by show (s.T ++ R.2.2.1).length <= _; rw [aB]; omega, r5 h.gd, ?_⟩
 rcases h.st with ⟨q, e⟩ | ⟨q, e⟩
 ·by_cases hx : 65535 < (mwN s R).out.length
  ·exact .inr ⟨hx, by rw [e, zOs hk, hR, if_pos (.inr hx)]⟩
  exact .inl ⟨by omega, by rw [e, zOs hk, hR, if_neg (fun h => h.elim (fun h => h he) hx)]⟩
 exact .inr ⟨by omega, e⟩
theorem mwInv.fin {s0 : MwS} {l : List MwI} {s : MwS} (h : mwInv s0 l l.length s) (he : s.out.length <= 65535) : mwF s0 l = some s := by
 rcases h.st with ⟨_, e⟩ | ⟨q, e⟩
 ·rw [e, List.drop_length]; rfl
 omega
noncomputable def tbTk : Tb Try.prog 0 := tbOf mixed []
abbrev trR (l : List RcX) : Value := treeV 5 l.length (l.flatMap layR.g)
abbrev trQ (l : List QuX) : Value := treeV 3 l.length (l.flatMap layQ.g)
theorem sameQ_tr (l1 l2 : List QuX) (hl : l1.length <= 9223372036854775807) : ∃ r, FnS Try.prog 0 32 [trQ l1, trQ l2] .e 0 r /\ ∃ H m wr, r = .ret (.bool (decide (l1 = l2))) H m wr := by
 refine zBh mixed tbTk [] Try.func32 (c := bodyOf Try.f32) (by kernel_rfl) ?_
 refine ifK (fun g => ?_) (fun g => ?_)
 ·have e : decide (l1 = l2) = false := aY (fun e => by subst e; simp at g)
  rw [e]; exact ⟨_, _, _, rfl⟩
 have hlen : l1.length = l2.length := by
  have hz : (l1.length : Int) = l2.length := by simpa using g
  omega
 refine zAn (fun (i : Nat) f => ⟨slots 6 [(0, trQ l1), (1, trQ l2), (5, .int .i64 (i : Nat))] f, heap 0 [], 0, [], []⟩) (fun i => l1.length - i) (fun i => i <= l1.length /\ l1.take i = l2.take i) 0 ⟨aH _, rfl⟩ (rcq [] ⟨⟨_, rfl, zAs 8 rfl⟩, ⟨_, rfl, zAs 8 rfl⟩, (sI rfl), tv⟩ trivial .nil) ?_
 rintro i f ⟨hi, heq⟩
 refine zAm tbTk [] 0 _ none mixed _ _ _ ?_
 refine ifK (fun h1 => ?_) (fun h1 => ?_)
 ·have h1 : i < l1.length := by have := oT h1; omega
  have h2 : i < l2.length := by omega
  refine aI (by kernel_rfl) ?_
  refine ifK (fun _ => ?_) (fun h2 => ab h2 (by simp [inI]; omega))
  refine eI l1[i].n (eI l1[i].t (eI l1[i].c (aI (zBm layQ h1) ?_)))
  refine ifK (fun _ => ?_) (fun h2 => ab h2 (by simp [inI]; omega))
  refine eI l2[i].n (eI l2[i].t (eI l2[i].c (aI (zBm layQ h2) ?_)))
  refine aI struct_q ?_
  refine ifK (fun h3 => ?_) (fun h3 => ?_)
  ·have e : decide (l1 = l2) = false := aY (fun e => by
    have he : l1[i] = l2[i] := zQn h1 h2 e
    rw [he] at h3; simp at h3)
   refine aI rfl (zAg (rcq [] (d := 6) (d2 := 0) (lv := [(4, .bool false)]) (bs := []) (W := []) (m := 0) (df := []) ⟨⟨_, rfl, zAf 8 rfl⟩, tv⟩ trivial .nil) (fun f => ?_))
   rw [e]; exact ⟨_, _, _, rfl⟩
  refine ⟨i + 1, ⟨h1, zRo h1 h2 heq ?_⟩, by omega, rcq [] ⟨⟨_, rfl, zAs 8 rfl⟩, ⟨_, rfl, zAs 8 rfl⟩, zAb rfl (by rw [wrapN (by omega) (by omega)]; omega), tv⟩ trivial .nil⟩
  simp only [Bool.not_eq_false', bA, beq_iff_eq, Bool.and_true] at h3
  obtain ⟨q0, q1, q2⟩ := h3
  cases hx : l1[i] with | mk x0 x1 x2 =>
  cases hy : l2[i] with | mk y0 y1 y2 =>
  rw [hx, hy] at q0 q1 q2
  simp only at q0 q1 q2
  rw [zTv q0, q1, q2]
 have h1 : ¬ i < l1.length := by have := oF h1; omega
 have e : decide (l1 = l2) = true := aX (by
  have := heq
  rwa [aD (by omega), aD (by omega)] at this)
 refine aI rfl (zAg (rcq [] (d := 6) (d2 := 0) (lv := []) (bs := []) (W := []) (m := 0) (df := []) trivial trivial .nil) (fun f => ?_))
 rw [e]; exact ⟨_, _, _, rfl⟩
theorem sameRs_tr (l1 l2 : List RcX) (hl : l1.length <= 9223372036854775807) : ∃ r, FnS Try.prog 0 58 [trR l1, trR l2] .e 0 r /\ ∃ H m wr, r = .ret (.bool (decide (l1 = l2))) H m wr := by
 refine zBh mixed tbTk [] Try.func58 (c := bodyOf Try.f58) (by kernel_rfl) ?_
 refine ifK (fun g => ?_) (fun g => ?_)
 ·have e : decide (l1 = l2) = false := aY (fun e => by subst e; simp at g)
  rw [e]; exact ⟨_, _, _, rfl⟩
 have hlen : l1.length = l2.length := by
  have hz : (l1.length : Int) = l2.length := by simpa using g
  omega
 refine zAn (fun (i : Nat) f => ⟨slots 6 [(0, trR l1), (1, trR l2), (5, .int .i64 (i : Nat))] f, heap 0 [], 0, [], []⟩) (fun i => l1.length - i) (fun i => i <= l1.length /\ l1.take i = l2.take i) 0 ⟨aH _, rfl⟩ (rcq [] ⟨⟨_, rfl, zAs 8 rfl⟩, ⟨_, rfl, zAs 8 rfl⟩, (sI rfl), tv⟩ trivial .nil) ?_
 rintro i f ⟨hi, heq⟩
 refine zAm tbTk [] 0 _ none mixed _ _ _ ?_
 refine ifK (fun h1 => ?_) (fun h1 => ?_)
 ·have h1 : i < l1.length := by have := oT h1; omega
  have h2 : i < l2.length := by omega
  refine aI (by kernel_rfl) ?_
  refine ifK (fun _ => ?_) (fun h2 => ab h2 (by simp [inI]; omega))
  refine eI l1[i].n (eI l1[i].t (eI l1[i].c (eI l1[i].ttl (eI l1[i].d (aI (zBm layR h1) ?_)))))
  refine ifK (fun _ => ?_) (fun h2 => ab h2 (by simp [inI]; omega))
  refine eI l2[i].n (eI l2[i].t (eI l2[i].c (eI l2[i].ttl (eI l2[i].d (aI (zBm layR h2) ?_)))))
  refine aI struct_r ?_
  refine ifK (fun h3 => ?_) (fun h3 => ?_)
  ·have e : decide (l1 = l2) = false := aY (fun e => by
    have he : l1[i] = l2[i] := zQn h1 h2 e
    rw [he] at h3; simp at h3)
   refine aI rfl (zAg (rcq [] (d := 6) (d2 := 0) (lv := [(4, .bool false)]) (bs := []) (W := []) (m := 0) (df := []) ⟨⟨_, rfl, zAf 8 rfl⟩, tv⟩ trivial .nil) (fun f => ?_))
   rw [e]; exact ⟨_, _, _, rfl⟩
  refine ⟨i + 1, ⟨h1, zRo h1 h2 heq ?_⟩, by omega, rcq [] ⟨⟨_, rfl, zAs 8 rfl⟩, ⟨_, rfl, zAs 8 rfl⟩, zAb rfl (by rw [wrapN (by omega) (by omega)]; omega), tv⟩ trivial .nil⟩
  simp only [Bool.not_eq_false', bA, beq_iff_eq, Bool.and_true] at h3
  obtain ⟨q0, q1, q2, q3, q4⟩ := h3
  cases hx : l1[i] with | mk x0 x1 x2 x3 x4 =>
  cases hy : l2[i] with | mk y0 y1 y2 y3 y4 =>
  rw [hx, hy] at q0 q1 q2 q3 q4
  simp only at q0 q1 q2 q3 q4
  rw [zTv q0, q1, q2, q3, zTv q4]
 have h1 : ¬ i < l1.length := by have := oF h1; omega
 have e : decide (l1 = l2) = true := aX (by
  have := heq
  rwa [aD (by omega), aD (by omega)] at this)
 refine aI rfl (zAg (rcq [] (d := 6) (d2 := 0) (lv := []) (bs := []) (W := []) (m := 0) (df := []) trivial trivial .nil) (fun f => ?_))
 rw [e]; exact ⟨_, _, _, rfl⟩
noncomputable def ct_sameQT : Ct Try.prog 0 := CtR.tree 32 (List QuX × List QuX) (fun x => [trQ x.1, trQ x.2]) (fun x => x.1.length <= 9223372036854775807) (fun x => .bool (decide (x.1 = x.2))) (fun a b h => by simp only [aQ, and_true] at h; exact Prod.ext (zCa layQ h.1) (zCa layQ h.2)) (fun _ => rfl)
 (fun x hl => by obtain ⟨r, hF, H, m, wr, rfl⟩ := sameQ_tr x.1 x.2 hl; exact ⟨_, _, _, _, hF, .one _ _ (.plain _ rfl)⟩)
noncomputable def zWl : Ct Try.prog 0 := CtR.tree 58 (List RcX × List RcX) (fun x => [trR x.1, trR x.2]) (fun x => x.1.length <= 9223372036854775807) (fun x => .bool (decide (x.1 = x.2))) (fun a b h => by simp only [aQ, and_true] at h; exact Prod.ext (zCa layR h.1) (zCa layR h.2)) (fun _ => rfl)
 (fun x hl => by obtain ⟨r, hF, H, m, wr, rfl⟩ := sameRs_tr x.1 x.2 hl; exact ⟨_, _, _, _, hF, .one _ _ (.plain _ rfl)⟩)
theorem zWh (l : List RcX) (n : Int) (hl : l.length <= 9223372036854775807) : ∃ r, FnS Try.prog 0 59 [trR l, .int .i64 n] .e 0 r /\ ∃ H m wr, r = .ret (.bool (l.any (bigR n))) H m wr := by
 refine zBh mixed tbTk [] Try.func59 (c := bodyOf Try.f59) (by kernel_rfl) ?_
 refine zAn (fun (i : Nat) f => ⟨slots 6 [(0, trR l), (1, .int .i64 n), (5, .int .i64 (i : Nat))] f, heap 0 [], 0, [], []⟩) (fun i => l.length - i) (fun i => i <= l.length /\ l.any (bigR n) = (l.drop i).any (bigR n)) 0 ⟨aH _, rfl⟩ (rcq [] ⟨⟨_, rfl, zAs 8 rfl⟩, (sI rfl), (sI rfl), tv⟩ trivial .nil) ?_
 rintro i f ⟨hi, heq⟩
 refine zAm tbTk [] 0 _ none mixed _ _ _ ?_
 refine ifK (fun h1 => ?_) (fun h1 => ?_)
 ·have h1 : i < l.length := by have := oT h1; omega
  have hst : (l.drop i).any (bigR n) = (bigR n l[i] || (l.drop (i + 1)).any (bigR n)) := by rw [bD h1]; rfl
  rw [hst] at heq
  refine ifK (fun _ => ?_) (fun h2 => ab h2 (by simp [inI]; omega))
  refine eI l[i].n (eI l[i].t (eI l[i].c (eI l[i].ttl (eI l[i].d (aI (zBm layR h1) ?_)))))
  refine ifK (fun h2 => ?_) (fun h2 => ?_)
  ·have e : l.any (bigR n) = true := by rw [heq]; unfold bigR; rw [h2]; rfl
   refine aI rfl (zAg (rcq [] (d := 6) (d2 := 0) (lv := [(4, .bool true)]) (bs := []) (W := []) (m := 0) (df := []) ⟨⟨_, rfl, zAf 8 rfl⟩, tv⟩ trivial .nil) (fun f => ?_))
   rw [e]; exact ⟨_, _, _, rfl⟩
  refine ifK (fun _ => ?_) (fun h3 => ab h3 (by simp [inI]; omega))
  refine eI l[i].n (eI l[i].t (eI l[i].c (eI l[i].ttl (eI l[i].d (aI (zBm layR h1) ?_)))))
  refine ifK (fun h3 => ?_) (fun h3 => ?_)
  ·have e : l.any (bigR n) = true := by rw [heq]; unfold bigR; rw [h3]; simp
   refine aI rfl (zAg (rcq [] (d := 6) (d2 := 0) (lv := [(4, .bool true)]) (bs := []) (W := []) (m := 0) (df := []) ⟨⟨_, rfl, zAf 8 rfl⟩, tv⟩ trivial .nil) (fun f => ?_))
   rw [e]; exact ⟨_, _, _, rfl⟩
  refine ⟨i + 1, ⟨h1, ?_⟩, by omega, rcq [] ⟨⟨_, rfl, zAs 8 rfl⟩, (sI rfl), zAb rfl (by rw [wrapN (by omega) (by omega)]; omega), tv⟩ trivial .nil⟩
  rw [heq]; unfold bigR; rw [h2, h3]; rfl
 have h1 : ¬ i < l.length := by have := oF h1; omega
 have e : l.any (bigR n) = false := by rw [heq, bE (by omega)]; rfl
 refine aI rfl (zAg (rcq [] (d := 6) (d2 := 0) (lv := []) (bs := []) (W := []) (m := 0) (df := []) trivial trivial .nil) (fun f => ?_))
 rw [e]; exact ⟨_, _, _, rfl⟩
noncomputable def zSj : Ct Try.prog 0 := CtR.tree 59 (List RcX × Int) (fun x => [trR x.1, .int .i64 x.2]) (fun x => x.1.length <= 9223372036854775807) (fun x => .bool (x.1.any (bigR x.2))) (fun a b h => by simp only [aQ, Value.int.injEq, true_and, and_true] at h; exact Prod.ext (zCa layR h.1) h.2) (fun _ => rfl)
 (fun x hl => by obtain ⟨r, hF, H, m, wr, rfl⟩ := zWh x.1 x.2 hl; exact ⟨_, _, _, _, hF, .one _ _ (.plain _ rfl)⟩)
structure MsT where
 id : Int
 fl : Int
 q : List QuX
 an : List RcX
 ns : List RcX
 ar : List RcX
def MsT.cs (m : MsT) : List Value := [.int .i64 m.id, .int .i64 m.fl, trQ m.q, trR m.an, trR m.ns, trR m.ar]
def MsT.v (m : MsT) : Value := .agg #[.int .i64 m.id, .int .i64 m.fl, trQ m.q, trR m.an, trR m.ns, trR m.ar]
theorem MsT.v_inj {m m' : MsT} (h : m.v = m'.v) : m = m' := by
 obtain ⟨id, fl, q, an, ns, ar⟩ := m
 obtain ⟨id', fl', q', an', ns', ar'⟩ := m'
 simp only [MsT.v, Value.agg.injEq, Array.mk.injEq, aQ, Value.int.injEq, true_and, and_true] at h
 obtain ⟨rfl, rfl, h1, h2, h3, h4⟩ := h
 rw [zCa layQ h1, zCa layR h2, zCa layR h3, zCa layR h4]
def MsT.fit (m : MsT) (k : Nat) : Prop := m.q.length <= k /\ m.an.length <= k /\ m.ns.length <= k /\ m.ar.length <= k
def MsT.len (m : MsT) : Int := IntKind.i64.wrap (IntKind.i64.wrap (IntKind.i64.wrap ((m.q.length : Int) + (m.an.length : Int)) + (m.ns.length : Int)) + (m.ar.length : Int))
def MsT.big (m : MsT) (n y : Int) : Bool := decide (m.len > n) || (m.q.any (bigQ y) || (m.an.any (bigR y) || (m.ns.any (bigR y) || m.ar.any (bigR y))))
noncomputable def tbTk2 : Tb Try.prog 0 := tbOf mixed [zSj]
theorem bigMs_tr (m : MsT) (n y : Int) (hf : m.fit 9223372036854775807) : ∃ r, FnS Try.prog 0 31 [m.v, .int .i64 n, .int .i64 y] .e 0 r /\ ∃ H k wr, r = .ret (.bool (m.big n y)) H k wr := by
 obtain ⟨id, fl, q, an, ns, ar⟩ := m
 obtain ⟨f1, f2, f3, f4⟩ := hf
 have f1 : q.length <= 9223372036854775807 := f1
 refine zBh mixed tbTk2 [] Try.func31 (c := bodyOf Try.f31) (by kernel_rfl) ?_
 unfold MsT.big
 refine ifK (fun g => ?_) (fun g => ?_)
 ·have e : decide (MsT.len ⟨id, fl, q, an, ns, ar⟩ > n) = true := g
  rw [e]; exact ⟨_, _, _, rfl⟩
 have e0 : decide (MsT.len ⟨id, fl, q, an, ns, ar⟩ > n) = false := g
 rw [e0, Bool.false_or]
 refine zAn (fun (i : Nat) f => ⟨slots 6 [(2, .int .i64 y), (3, .pointer (some ⟨0, 0, none⟩)), (7, .int .i64 (i : Nat))] f, heap 1 [(0, .cells (MsT.cs ⟨id, fl, q, an, ns, ar⟩) 25)], 1, [], []⟩) (fun i => q.length - i) (fun i => i <= q.length /\ q.any (bigQ y) = (q.drop i).any (bigQ y)) 0 ⟨aH _, rfl⟩
  (rcq [0] ⟨(sI rfl), (sP rfl rfl), (sI rfl), tv⟩ ⟨⟨by decide, _, rfl, RO.clos rfl⟩, tv⟩ .nil) ?_
 rintro i f ⟨hi, heq⟩
 refine zAm tbTk2 [] 0 _ none mixed _ _ _ ?_
 refine ifK (fun h1 => ?_) (fun h1 => ?_)
 ·have h1 : i < q.length := by have h1 : ((i : Nat) : Int) < (q.length : Int) := oT h1; omega
  have hst : (q.drop i).any (bigQ y) = (bigQ y q[i] || (q.drop (i + 1)).any (bigQ y)) := by rw [bD h1]; rfl
  rw [hst] at heq
  refine ifK (fun _ => ?_) (fun h2 => ab h2 (by simp [inI]; omega))
  refine eI q[i].n (eI q[i].t (eI q[i].c (aI (zBm layQ h1) ?_)))
  refine ifK (fun h2 => ?_) (fun h2 => ?_)
  ·have e : q.any (bigQ y) = true := by rw [heq]; unfold bigQ; rw [h2]; rfl
   refine aI rfl (zAg (rcq [] (d := 6) (d2 := 0) (lv := [(6, .bool true)]) (bs := []) (W := []) (m := 0) (df := []) ⟨⟨_, rfl, zAf 8 rfl⟩, tv⟩ trivial .nil) (fun f => ?_))
   rw [e]; exact ⟨_, _, _, rfl⟩
  refine ⟨i + 1, ⟨h1, ?_⟩, by show q.length - (i + 1) < q.length - i; omega, rcq [0] ⟨(sI rfl), (sP rfl rfl), zAb rfl (by rw [wrapN (by omega) (by omega)]; omega), tv⟩ ⟨⟨by decide, _, rfl, RO.clos rfl⟩, tv⟩ .nil⟩
  rw [heq]; unfold bigQ; rw [h2]; rfl
 have h1 : ¬ i < q.length := fun e => ab (show ((i : Nat) : Int) < (q.length : Int) by omega) (oF h1)
 have e : q.any (bigQ y) = false := by rw [heq, bE (by omega)]; rfl
 rw [e, Bool.false_or]
 refine aI rfl (zAg (rcq [0] (d := 6) (d2 := 1) (lv := [(2, .int .i64 y), (3, .pointer (some ⟨0, 0, none⟩))]) (bs := [(0, .cells (MsT.cs ⟨id, fl, q, an, ns, ar⟩) 25)]) (W := []) (m := 1) (df := []) ⟨(sI rfl), (sP rfl rfl), tv⟩ ⟨⟨by decide, _, rfl, RO.clos rfl⟩, tv⟩ .nil) (fun f => ?_))
 refine eI (an, y) (aI ⟨rfl, f2⟩ ?_)
 refine ifK (fun g => ?_) (fun g => ?_)
 ·have e : an.any (bigR y) = true := g
  rw [e]; exact ⟨_, _, _, rfl⟩
 have e : an.any (bigR y) = false := g
 rw [e, Bool.false_or]
 refine eI (ns, y) (aI ⟨rfl, f3⟩ ?_)
 refine ifK (fun g => ?_) (fun g => ?_)
 ·have e : ns.any (bigR y) = true := g
  rw [e]; exact ⟨_, _, _, rfl⟩
 have e : ns.any (bigR y) = false := g
 rw [e, Bool.false_or]
 refine eI (ar, y) (aI ⟨rfl, f4⟩ ?_)
 exact ⟨_, _, _, rfl⟩
noncomputable def ct_bigMsT : Ct Try.prog 0 := CtR.tree 31 (MsT × Int × Int) (fun x => [x.1.v, .int .i64 x.2.1, .int .i64 x.2.2]) (fun x => x.1.fit 9223372036854775807) (fun x => .bool (x.1.big x.2.1 x.2.2)) (fun a b h => by simp only [aQ, Value.int.injEq, true_and, and_true] at h; exact Prod.ext (MsT.v_inj h.1) (Prod.ext h.2.1 h.2.2)) (fun _ => rfl)
 (fun x hf => by obtain ⟨r, hF, H, k, wr, rfl⟩ := bigMs_tr x.1 x.2.1 x.2.2 hf; exact ⟨_, _, _, _, hF, .one _ _ (.plain _ rfl)⟩)
structure LtM where
 m : MsT
 q : Value
 an : Value
 ns : Value
 ar : Value
def LtM.v (x : LtM) : Value := .agg #[.int .i64 x.m.id, .int .i64 x.m.fl, x.q, x.an, x.ns, x.ar]
def LtM.at (x : LtM) (H : Tr AObj) : Prop := LtL layQ H x.q x.m.q /\ LtL layR H x.an x.m.an /\ LtL layR H x.ns x.m.ns /\ LtL layR H x.ar x.m.ar
theorem LtM.uniq {x y : LtM} {H : Tr AObj} (e : x.v = y.v) (h : x.at H) (k : y.at H) : x = y := by
 obtain ⟨⟨i, f, q, a, n, r⟩, vq, va, vn, vr⟩ := x
 obtain ⟨⟨i', f', q', a', n', r'⟩, vq', va', vn', vr'⟩ := y
 simp only [LtM.v, Value.agg.injEq, Array.mk.injEq, aQ, Value.int.injEq, true_and, and_true] at e
 obtain ⟨rfl, rfl, rfl, rfl, rfl, rfl⟩ := e
 obtain ⟨h1, h2, h3, h4⟩ := h
 obtain ⟨k1, k2, k3, k4⟩ := k
 have e1 : q = q' := h1.uniq k1
 have e2 : a = a' := h2.uniq k2
 have e3 : n = n' := h3.uniq k3
 have e4 : r = r' := h4.uniq k4
 subst e1; subst e2; subst e3; subst e4; rfl
theorem LtM.frz {x : LtM} {H : Tr AObj} (h : x.at H) : FrzP True Try.prog 0 H x.v x.m.v := by
 obtain ⟨h1, h2, h3, h4⟩ := h
 exact .agg _ _ (.cons _ _ _ _ (.one _ _ (.plain _ rfl)) (.cons _ _ _ _ (.one _ _ (.plain _ rfl)) (.cons _ _ _ _ (h1.frz (by kernel_rfl)) (.cons _ _ _ _ (h2.frz (by kernel_rfl)) (.cons _ _ _ _ (h3.frz (by kernel_rfl)) (.cons _ _ _ _ (h4.frz (by kernel_rfl)) .nil))))))
def MsT.lt (m : MsT) : LtM := ⟨m, trQ m.q, trR m.an, trR m.ns, trR m.ar⟩
theorem MsT.lt_at (m : MsT) (H : Tr AObj) : m.lt.at H := ⟨.tree _ _ _, .tree _ _ _, .tree _ _ _, .tree _ _ _⟩
noncomputable def CtR.lendM (f : FuncId) (pre : MsT -> Prop) (out : MsT -> Value) (ok : ∀ m, pre m -> ∃ v H k wr, FnS Try.prog 0 f [m.v] .e 0 (.ret v H k wr) /\ FrzP False Try.prog 0 H v (out m))
  (tr : MsT -> (Value -> Prop) -> Prop := fun x F => F (out x)) (trOk : ∀ x F, tr x F -> F (out x) := by exact fun _ _ h => h) : Ct Try.prog 0 :=
 CtR.lend f LtM (fun x => [x.v]) LtM.at (fun x => [x.m.v]) (fun x => pre x.m) (fun x => out x.m) (fun _ _ _ e h k => LtM.uniq (by simpa using e) h k) (fun _ _ h => .cons _ _ _ _ (LtM.frz h) .nil) (fun x h => ok x.m h) (fun x => tr x.m) (fun x => trOk x.m)
def cmS1 (id fl : Int) (ql : List QuX) (al nl rl : List RcX) (i : Nat) (f : Nat -> Option Value) : Fs := ⟨slots 7 [(1, pt 0), (48, trQ ql), (49, .int .i64 ql.length), (50, .int .i64 i)] f, heap 1 [(0, .cells [.int .i64 id, .int .i64 fl, trQ ql, trR al, trR nl, trR rl] 25)], 1, [], []⟩
def cmS2 (id fl : Int) (ql : List QuX) (al nl rl : List RcX) (k : Int) (yl : List RcX) (i : Nat) (f : Nat -> Option Value) : Fs := ⟨slots 7 [(71, .agg #[.pointer (some ⟨0, 3, none⟩), .pointer (some ⟨0, 4, none⟩), .pointer (some ⟨0, 5, none⟩)]), (72, .int .i64 k), (77, trR yl), (78, .int .i64 yl.length), (79, .int .i64 i)] f, heap 1 [(0, .cells [.int .i64 id, .int .i64 fl, trQ ql, trR al, trR nl, trR rl] 25)], 1, [], []⟩
theorem zSz (id fl : Int) (ql : List QuX) (al nl rl : List RcX) (hq : ∀ x ∈ ql, shortB x.n = true) (ha : ∀ x ∈ al, x.ok = true) (hn : ∀ x ∈ nl, x.ok = true) (hr : ∀ x ∈ rl, x.ok = true) :
  ∃ r, FnS Try.prog 0 14 [(MsT.mk id fl ql al nl rl).v] .e 0 r /\ ∃ H k wr, r = .ret (.int .i64 (msC id fl ql al nl rl)) H k wr := by
 refine zBh mixed tbMs4 [] Try.func14 (c := bodyOf Try.f14) (by kernel_rfl) ?_
 unfold msC
 refine ifK (fun g1 => ?_) (fun g1 => by rw [zFx g1]; exact ⟨_, _, _, rfl⟩)
 refine ifK (fun g2 => by rw [zCq g2]; exact ⟨_, _, _, rfl⟩) (fun g2 => ?_)
 rw [zFc g1 g2, Bool.true_and]
 refine ifK (fun g3 => ?_) (fun g3 => by rw [zFx g3]; exact ⟨_, _, _, rfl⟩)
 refine ifK (fun g4 => by rw [zCq g4]; exact ⟨_, _, _, rfl⟩) (fun g4 => ?_)
 rw [zFc g3 g4, if_neg (by decide)]
 refine ifK (fun g5 => by rw [zCq g5]; exact ⟨_, _, _, rfl⟩) (fun g5 => ?_)
 rw [zEe g5, Bool.true_and]
 refine ifK (fun g6 => by rw [zCq g6]; exact ⟨_, _, _, rfl⟩) (fun g6 => ?_)
 rw [zEe g6, Bool.true_and]
 refine ifK (fun g7 => by rw [zCq g7]; exact ⟨_, _, _, rfl⟩) (fun g7 => ?_)
 rw [zEe g7, Bool.true_and]
 refine ifK (fun g8 => by rw [zCq g8]; exact ⟨_, _, _, rfl⟩) (fun g8 => ?_)
 rw [zEe g8, if_neg (by decide)]
 have f1 : ql.length <= 65535 := by have := oT (Bool.not_eq_false' .. ▸ g5 : decide ((ql.length : Int) <= 65535) = true); omega
 have f2 : al.length <= 65535 := by have := oT (Bool.not_eq_false' .. ▸ g6 : decide ((al.length : Int) <= 65535) = true); omega
 have f3 : nl.length <= 65535 := by have := oT (Bool.not_eq_false' .. ▸ g7 : decide ((nl.length : Int) <= 65535) = true); omega
 have f4 : rl.length <= 65535 := by have := oT (Bool.not_eq_false' .. ▸ g8 : decide ((rl.length : Int) <= 65535) = true); omega
 refine zAn (cmS1 id fl ql al nl rl) (fun i => ql.length - i) (fun i => i <= ql.length /\ firstE quC ql = firstE quC (ql.drop i)) 0 ⟨aH _, rfl⟩
  (rcq [0] ⟨(sP rfl rfl), ⟨_, rfl, zAs 8 rfl⟩, (sI rfl), (sI rfl), tv⟩ ⟨⟨by decide, _, rfl, RO.clos rfl⟩, tv⟩ .nil) ?_
 rintro i f ⟨hi, heq⟩
 have hi : i <= ql.length := hi
 refine zAm tbMs4 [] 0 _ none mixed _ _ _ ?_
 refine ifK (fun h1 => ?_) (fun h1 => ?_)
 ·have h1 : i < ql.length := by have h1 : ((i : Nat) : Int) < (ql.length : Int) := oT h1; omega
  rw [zDi quC ql i h1] at heq
  refine ifK (fun _ => ?_) (fun h2 => ab h2 (by simp [inI]; omega))
  refine eI ql[i].n (eI ql[i].t (eI ql[i].c (aI (zBm layQ h1) ?_)))
  obtain ⟨x, hx⟩ : ∃ x, ql[i] = x := ⟨_, rfl⟩
  rw [hx] at heq ⊢
  have hs : shortB x.n = true := hx ▸ hq _ (aV h1)
  refine aI hs ?_
  refine ifK (fun h2 => ?_) (fun h2 => ?_)
  ·have h2 : (labels (bs x.n)).2 ≠ 0 := by simpa using h2
   have e : quC x = (labels (bs x.n)).2 := by unfold quC; rw [if_pos h2]
   have e1 : firstE quC ql = (labels (bs x.n)).2 := by rw [heq, e, if_pos h2]
   refine aI rfl (zAg (rcq [] (d := 7) (d2 := 0) (lv := [(2, .int .i64 ((labels (bs x.n)).2))]) (bs := []) (W := []) (m := 0) (df := []) ⟨(sI rfl), tv⟩ trivial .nil) (fun f => ?_))
   rw [e1, if_pos h2]; exact ⟨_, _, _, rfl⟩
  have h2 : (labels (bs x.n)).2 = 0 := by simpa using h2
  have e0 : quC x = if (numB x.t 65535 && numB x.c 65535) = true then 0 else 5 := by unfold quC; rw [if_neg (by simpa using h2)]
  have bad : (numB x.t 65535 && numB x.c 65535) = false -> firstE quC ql = 5 := fun h => by rw [heq, e0, h]; rfl
  have good : (numB x.t 65535 && numB x.c 65535) = true -> firstE quC ql = firstE quC (ql.drop (i + 1)) := fun h => by rw [heq, e0, h]; rfl
  refine ifK (fun k1 => ?_) (fun k1 => ?_)
  ·refine ifK (fun k2 => ?_) (fun k2 => ?_)
   ·have e1 := bad (by rw [zCq k2]; rfl)
    refine aI rfl (zAg (rcq [] (d := 7) (d2 := 0) (lv := [(2, .int .i64 (5))]) (bs := []) (W := []) (m := 0) (df := []) ⟨(sI rfl), tv⟩ trivial .nil) (fun f => ?_))
    rw [e1, if_pos (by decide)]; exact ⟨_, _, _, rfl⟩
   refine ifK (fun k3 => ?_) (fun k3 => ?_)
   ·refine ifK (fun k4 => ?_) (fun k4 => ?_)
    ·have e1 := bad (by rw [zCq k4, Bool.and_false])
     refine aI rfl (zAg (rcq [] (d := 7) (d2 := 0) (lv := [(2, .int .i64 (5))]) (bs := []) (W := []) (m := 0) (df := []) ⟨(sI rfl), tv⟩ trivial .nil) (fun f => ?_))
     rw [e1, if_pos (by decide)]; exact ⟨_, _, _, rfl⟩
    exact ⟨i + 1, ⟨h1, good (by rw [zFc k1 k2, zFc k3 k4]; rfl)⟩, by show ql.length - (i + 1) < ql.length - i; omega, rcq [0] ⟨(sP rfl rfl), ⟨_, rfl, zAs 8 rfl⟩, (sI rfl), zAb rfl (by rw [wrapN (by omega) (by omega)]; omega), tv⟩ ⟨⟨by decide, _, rfl, RO.clos rfl⟩, tv⟩ .nil⟩
   have e1 := bad (by rw [zFx k3, Bool.and_false])
   refine aI rfl (zAg (rcq [] (d := 7) (d2 := 0) (lv := [(2, .int .i64 (5))]) (bs := []) (W := []) (m := 0) (df := []) ⟨(sI rfl), tv⟩ trivial .nil) (fun f => ?_))
   rw [e1, if_pos (by decide)]; exact ⟨_, _, _, rfl⟩
  have e1 := bad (by rw [zFx k1]; rfl)
  refine aI rfl (zAg (rcq [] (d := 7) (d2 := 0) (lv := [(2, .int .i64 (5))]) (bs := []) (W := []) (m := 0) (df := []) ⟨(sI rfl), tv⟩ trivial .nil) (fun f => ?_))
  rw [e1, if_pos (by decide)]; exact ⟨_, _, _, rfl⟩
 have h1 : ¬ i < ql.length := fun e => ab (show ((i : Nat) : Int) < (ql.length : Int) by omega) (oF h1)
 have e1 : firstE quC ql = 0 := by rw [heq, zDt _ _ _ (by omega)]
 rw [e1, if_neg (by decide)]
 refine aI rfl (zAg (rcq [0] (d := 7) (d2 := 1) (lv := [(1, pt 0)]) (bs := [(0, .cells [.int .i64 id, .int .i64 fl, trQ ql, trR al, trR nl, trR rl] 25)]) (W := []) (m := 1) (df := []) ⟨(sP rfl rfl), tv⟩ ⟨⟨by decide, _, rfl, RO.clos rfl⟩, tv⟩ .nil) (fun f => ?_))
 refine aI (by kernel_rfl) ?_
 refine LW.round ?_
 refine zAm tbMs4 [] 0 _ none mixed _ _ _ ?_
 refine zAn (cmS2 id fl ql al nl rl 0 al) (fun i => al.length - i) (fun i => i <= al.length /\ firstE recC al = firstE recC (al.drop i)) 0 ⟨aH _, rfl⟩
  (rcq [0] ⟨⟨_, rfl, .agg _ _ (.cons _ _ _ _ (.ptr _ _ _ rfl) (.cons _ _ _ _ (.ptr _ _ _ rfl) (.cons _ _ _ _ (.ptr _ _ _ rfl) .nil)))⟩, (sI rfl), ⟨_, rfl, zAs 8 rfl⟩, (sI rfl), (sI rfl), tv⟩ ⟨⟨by decide, _, rfl, RO.clos rfl⟩, tv⟩ .nil) ?_
 rintro i f ⟨hi, heq⟩
 have hi : i <= al.length := hi
 refine zAm tbMs4 [] 0 _ none mixed _ _ _ ?_
 refine ifK (fun h1 => ?_) (fun h1 => ?_)
 ·have h1 : i < al.length := by have h1 : ((i : Nat) : Int) < (al.length : Int) := oT h1; omega
  rw [zDi recC al i h1] at heq
  refine ifK (fun _ => ?_) (fun h2 => ab h2 (by simp [inI]; omega))
  refine eI al[i].n (eI al[i].t (eI al[i].c (eI al[i].ttl (eI al[i].d (aI (zBm layR h1) ?_)))))
  obtain ⟨x, hx⟩ : ∃ x, al[i] = x := ⟨_, rfl⟩
  rw [hx] at heq ⊢
  have hs : x.ok = true := hx ▸ ha _ (aV h1)
  refine aI hs ?_
  refine ifK (fun h2 => ?_) (fun h2 => ?_)
  ·have h2 : recC x ≠ 0 := by simpa using h2
   have e1 : firstE recC al = recC x := by rw [heq, if_pos h2]
   refine aI rfl (zAg (rcq [] (d := 7) (d2 := 0) (lv := [(2, .int .i64 (recC x))]) (bs := []) (W := []) (m := 0) (df := []) ⟨(sI rfl), tv⟩ trivial .nil) (fun f => ?_))
   rw [e1, if_pos h2]; exact ⟨_, _, _, rfl⟩
  have h2 : recC x = 0 := by simpa using h2
  exact ⟨i + 1, ⟨h1, by rw [heq, if_neg (by simpa using h2)]⟩, by show al.length - (i + 1) < al.length - i; omega, rcq [0] ⟨⟨_, rfl, .agg _ _ (.cons _ _ _ _ (.ptr _ _ _ rfl) (.cons _ _ _ _ (.ptr _ _ _ rfl) (.cons _ _ _ _ (.ptr _ _ _ rfl) .nil)))⟩, (sI rfl), ⟨_, rfl, zAs 8 rfl⟩, (sI rfl), zAb rfl (by rw [wrapN (by omega) (by omega)]; omega), tv⟩ ⟨⟨by decide, _, rfl, RO.clos rfl⟩, tv⟩ .nil⟩
 have h1 : ¬ i < al.length := fun e => ab (show ((i : Nat) : Int) < (al.length : Int) by omega) (oF h1)
 have e1 : firstE recC al = 0 := by rw [heq, zDt _ _ _ (by omega)]
 rw [e1, if_neg (by decide)]
 refine aI rfl (zAg (rcq [0] (d := 7) (d2 := 1) (lv := [(71, .agg #[.pointer (some ⟨0, 3, none⟩), .pointer (some ⟨0, 4, none⟩), .pointer (some ⟨0, 5, none⟩)]), (72, .int .i64 0)]) (bs := [(0, .cells [.int .i64 id, .int .i64 fl, trQ ql, trR al, trR nl, trR rl] 25)]) (W := []) (m := 1) (df := []) ⟨⟨_, rfl, .agg _ _ (.cons _ _ _ _ (.ptr _ _ _ rfl) (.cons _ _ _ _ (.ptr _ _ _ rfl) (.cons _ _ _ _ (.ptr _ _ _ rfl) .nil)))⟩, (sI rfl), tv⟩ ⟨⟨by decide, _, rfl, RO.clos rfl⟩, tv⟩ .nil) (fun f => ?_))
 refine LW.round ?_
 refine zAm tbMs4 [] 0 _ none mixed _ _ _ ?_
 refine zAn (cmS2 id fl ql al nl rl 1 nl) (fun i => nl.length - i) (fun i => i <= nl.length /\ firstE recC nl = firstE recC (nl.drop i)) 0 ⟨aH _, rfl⟩
  (rcq [0] ⟨⟨_, rfl, .agg _ _ (.cons _ _ _ _ (.ptr _ _ _ rfl) (.cons _ _ _ _ (.ptr _ _ _ rfl) (.cons _ _ _ _ (.ptr _ _ _ rfl) .nil)))⟩, (sI rfl), ⟨_, rfl, zAs 8 rfl⟩, (sI rfl), (sI rfl), tv⟩ ⟨⟨by decide, _, rfl, RO.clos rfl⟩, tv⟩ .nil) ?_
 rintro i f ⟨hi, heq⟩
 have hi : i <= nl.length := hi
 refine zAm tbMs4 [] 0 _ none mixed _ _ _ ?_
 refine ifK (fun h1 => ?_) (fun h1 => ?_)
 ·have h1 : i < nl.length := by have h1 : ((i : Nat) : Int) < (nl.length : Int) := oT h1; omega
  rw [zDi recC nl i h1] at heq
  refine ifK (fun _ => ?_) (fun h2 => ab h2 (by simp [inI]; omega))
  refine eI nl[i].n (eI nl[i].t (eI nl[i].c (eI nl[i].ttl (eI nl[i].d (aI (zBm layR h1) ?_)))))
  obtain ⟨x, hx⟩ : ∃ x, nl[i] = x := ⟨_, rfl⟩
  rw [hx] at heq ⊢
  have hs : x.ok = true := hx ▸ hn _ (aV h1)
  refine aI hs ?_
  refine ifK (fun h2 => ?_) (fun h2 => ?_)
  ·have h2 : recC x ≠ 0 := by simpa using h2
   have e1 : firstE recC nl = recC x := by rw [heq, if_pos h2]
   refine aI rfl (zAg (rcq [] (d := 7) (d2 := 0) (lv := [(2, .int .i64 (recC x))]) (bs := []) (W := []) (m := 0) (df := []) ⟨(sI rfl), tv⟩ trivial .nil) (fun f => ?_))
   rw [e1, if_pos h2]; exact ⟨_, _, _, rfl⟩
  have h2 : recC x = 0 := by simpa using h2
  exact ⟨i + 1, ⟨h1, by rw [heq, if_neg (by simpa using h2)]⟩, by show nl.length - (i + 1) < nl.length - i; omega, rcq [0] ⟨⟨_, rfl, .agg _ _ (.cons _ _ _ _ (.ptr _ _ _ rfl) (.cons _ _ _ _ (.ptr _ _ _ rfl) (.cons _ _ _ _ (.ptr _ _ _ rfl) .nil)))⟩, (sI rfl), ⟨_, rfl, zAs 8 rfl⟩, (sI rfl), zAb rfl (by rw [wrapN (by omega) (by omega)]; omega), tv⟩ ⟨⟨by decide, _, rfl, RO.clos rfl⟩, tv⟩ .nil⟩
 have h1 : ¬ i < nl.length := fun e => ab (show ((i : Nat) : Int) < (nl.length : Int) by omega) (oF h1)
 have e1 : firstE recC nl = 0 := by rw [heq, zDt _ _ _ (by omega)]
 rw [e1, if_neg (by decide)]
 refine aI rfl (zAg (rcq [0] (d := 7) (d2 := 1) (lv := [(71, .agg #[.pointer (some ⟨0, 3, none⟩), .pointer (some ⟨0, 4, none⟩), .pointer (some ⟨0, 5, none⟩)]), (72, .int .i64 1)]) (bs := [(0, .cells [.int .i64 id, .int .i64 fl, trQ ql, trR al, trR nl, trR rl] 25)]) (W := []) (m := 1) (df := []) ⟨⟨_, rfl, .agg _ _ (.cons _ _ _ _ (.ptr _ _ _ rfl) (.cons _ _ _ _ (.ptr _ _ _ rfl) (.cons _ _ _ _ (.ptr _ _ _ rfl) .nil)))⟩, (sI rfl), tv⟩ ⟨⟨by decide, _, rfl, RO.clos rfl⟩, tv⟩ .nil) (fun f => ?_))
 refine LW.round ?_
 refine zAm tbMs4 [] 0 _ none mixed _ _ _ ?_
 refine zAn (cmS2 id fl ql al nl rl 2 rl) (fun i => rl.length - i) (fun i => i <= rl.length /\ firstE recC rl = firstE recC (rl.drop i)) 0 ⟨aH _, rfl⟩
  (rcq [0] ⟨⟨_, rfl, .agg _ _ (.cons _ _ _ _ (.ptr _ _ _ rfl) (.cons _ _ _ _ (.ptr _ _ _ rfl) (.cons _ _ _ _ (.ptr _ _ _ rfl) .nil)))⟩, (sI rfl), ⟨_, rfl, zAs 8 rfl⟩, (sI rfl), (sI rfl), tv⟩ ⟨⟨by decide, _, rfl, RO.clos rfl⟩, tv⟩ .nil) ?_
 rintro i f ⟨hi, heq⟩
 have hi : i <= rl.length := hi
 refine zAm tbMs4 [] 0 _ none mixed _ _ _ ?_
 refine ifK (fun h1 => ?_) (fun h1 => ?_)
 ·have h1 : i < rl.length := by have h1 : ((i : Nat) : Int) < (rl.length : Int) := oT h1; omega
  rw [zDi recC rl i h1] at heq
  refine ifK (fun _ => ?_) (fun h2 => ab h2 (by simp [inI]; omega))
  refine eI rl[i].n (eI rl[i].t (eI rl[i].c (eI rl[i].ttl (eI rl[i].d (aI (zBm layR h1) ?_)))))
  obtain ⟨x, hx⟩ : ∃ x, rl[i] = x := ⟨_, rfl⟩
  rw [hx] at heq ⊢
  have hs : x.ok = true := hx ▸ hr _ (aV h1)
  refine aI hs ?_
  refine ifK (fun h2 => ?_) (fun h2 => ?_)
  ·have h2 : recC x ≠ 0 := by simpa using h2
   have e1 : firstE recC rl = recC x := by rw [heq, if_pos h2]
   refine aI rfl (zAg (rcq [] (d := 7) (d2 := 0) (lv := [(2, .int .i64 (recC x))]) (bs := []) (W := []) (m := 0) (df := []) ⟨(sI rfl), tv⟩ trivial .nil) (fun f => ?_))
   rw [e1]; exact ⟨_, _, _, rfl⟩
  have h2 : recC x = 0 := by simpa using h2
  exact ⟨i + 1, ⟨h1, by rw [heq, if_neg (by simpa using h2)]⟩, by show rl.length - (i + 1) < rl.length - i; omega, rcq [0] ⟨⟨_, rfl, .agg _ _ (.cons _ _ _ _ (.ptr _ _ _ rfl) (.cons _ _ _ _ (.ptr _ _ _ rfl) (.cons _ _ _ _ (.ptr _ _ _ rfl) .nil)))⟩, (sI rfl), ⟨_, rfl, zAs 8 rfl⟩, (sI rfl), zAb rfl (by rw [wrapN (by omega) (by omega)]; omega), tv⟩ ⟨⟨by decide, _, rfl, RO.clos rfl⟩, tv⟩ .nil⟩
 have h1 : ¬ i < rl.length := fun e => ab (show ((i : Nat) : Int) < (rl.length : Int) by omega) (oF h1)
 have e1 : firstE recC rl = 0 := by rw [heq, zDt _ _ _ (by omega)]
 rw [e1]
 refine aI rfl (zAg (rcq [0] (d := 7) (d2 := 1) (lv := [(71, .agg #[.pointer (some ⟨0, 3, none⟩), .pointer (some ⟨0, 4, none⟩), .pointer (some ⟨0, 5, none⟩)]), (72, .int .i64 2)]) (bs := [(0, .cells [.int .i64 id, .int .i64 fl, trQ ql, trR al, trR nl, trR rl] 25)]) (W := []) (m := 1) (df := []) ⟨⟨_, rfl, .agg _ _ (.cons _ _ _ _ (.ptr _ _ _ rfl) (.cons _ _ _ _ (.ptr _ _ _ rfl) (.cons _ _ _ _ (.ptr _ _ _ rfl) .nil)))⟩, (sI rfl), tv⟩ ⟨⟨by decide, _, rfl, RO.clos rfl⟩, tv⟩ .nil) (fun f => ?_))
 refine LW.round ?_
 refine zAm tbMs4 [] 0 _ none mixed _ _ _ ?_
 exact ⟨_, _, _, rfl⟩
def MsT.chk (m : MsT) : Int := msC m.id m.fl m.q m.an m.ns m.ar
def MsT.okM (m : MsT) : Prop := (∀ x ∈ m.q, shortB x.n = true) /\ (∀ x ∈ m.an, x.ok = true) /\ (∀ x ∈ m.ns, x.ok = true) /\ (∀ x ∈ m.ar, x.ok = true)
noncomputable def zKq : Ct Try.prog 0 := CtR.lendM 14 MsT.okM (fun m => .int .i64 m.chk)
 (fun m h => by obtain ⟨r, hF, H, k, wr, rfl⟩ := zSz m.id m.fl m.q m.an m.ns m.ar h.1 h.2.1 h.2.2.1 h.2.2.2; exact ⟨_, _, _, _, hF, .one _ _ (.plain _ rfl)⟩)
noncomputable def tbWr8 : Tb Try.prog 0 := tbOf mixed [zFr, zKs, zUk]
theorem zVl (y : AskY) (en : Nat) (hs : shortB y.n = true) : RpFn0 49 y.xs en (y.D en []) := by
 obtain ⟨a, n, t, c⟩ := y
 have hs : shortB n = true := hs
 have h1s : (Try.prog.types[5]).size = 1 := by kernel_rfl
 have hby : (Try.prog.types[5]).bytes = 1 := by kernel_rfl
 refine zBh mixed tbWr8 [4] Try.func49 (c := bodyOf Try.f49) (by kernel_rfl) ?_
 refine aI hs ?_
 unfold AskY.D askD
 refine ifK (fun g => ?_) (fun g => ?_)
 ·have g : (labels (bs n)).2 ≠ 0 := by simpa using g
  rw [if_pos g]
  exact ⟨_, _, _, 0, 1, rfl, fun h => ab rfl h, .inl ⟨rfl, rfl⟩⟩
 have gz : ¬ (labels (bs n)).2 ≠ 0 := by simpa using g
 clear g
 rw [if_neg gz]
 refine eI t (aI rfl ?_)
 refine ifK (fun g2 => ?_) (fun g2 => ?_)
 rotate_left
 ·rw [show numB t 65535 = false from g2]
  refine eI c (aI rfl ?_)
  refine ifK (fun g3 => ?_) (fun g3 => ?_)
  ·exact ⟨_, _, _, 0, 1, rfl, fun h => ab rfl h, .inl ⟨rfl, rfl⟩⟩
  exact ⟨_, _, _, 0, 1, rfl, fun h => ab rfl h, .inl ⟨rfl, rfl⟩⟩
 have k2 : numB t 65535 = true := g2
 clear g2
 rw [k2]
 refine eI c (aI rfl ?_)
 refine ifK (fun g3 => ?_) (fun g3 => ?_)
 rotate_left
 ·rw [show numB c 65535 = false from g3]
  exact ⟨_, _, _, 0, 1, rfl, fun h => ab rfl h, .inl ⟨rfl, rfl⟩⟩
 have k3 : numB c 65535 = true := g3
 clear g3
 rw [k3, show (true && true) = true from rfl, if_pos rfl]
 by_cases he : pnE en a n ≠ 0
 ·rw [if_pos he]
  refine eI (⟨0, none, en, [], a, n, true, [], []⟩ : RnX) (aI ⟨rfl, (show Tr.get _ 0 = some (AObj.cells [.slice none 0 0, .int .i64 (en : Int)] _) from rfl), rfl, ⟨List.nodup_nil, fun p hp => by cases hp⟩, (aH _), hs, (aX he).symm, fun h => by cases h⟩ ?_)
  refine ifK (fun _ => ?_) (fun g => ab (show pnE en a n = 0 by simpa using g) he)
  exact ⟨_, _, _, 0, 1, rfl, fun h => ab rfl h, .inl ⟨rfl, rfl⟩⟩
 rw [if_neg he]
 have he0 : pnE en a n = 0 := Decidable.not_not.1 he
 obtain ⟨⟨p1, p2⟩, p3, p4, p5⟩ := zCr he0
 have hpos := ((zAu (bs n)).1 p4).1.pos
 obtain ⟨r, hr⟩ : ∃ r, packN [] a.toNat (bs n).length (bs n) 0 = r := ⟨_, rfl⟩
 have hl1 := zAw [] a.toNat (bs n).length (bs n) 0
 have hne := zCn [] a.toNat (bs n).length (bs n) 0 hpos
 rw [hr] at hl1 hne
 simp only [hr]
 obtain ⟨o, F⟩ := r
 have hl1 : o.length <= 257 := by have : o.length <= (bs n).length + 2 := hl1; omega
 obtain ⟨t, rfl, ht⟩ := zDd k2
 obtain ⟨c, rfl, hc⟩ := zDd k3
 cases o with
 | nil => exact ab rfl hne
 | cons v vs =>
 have hvl : vs.length + 1 <= 257 := hl1
 have hone : oneL ((v :: vs).map byV) = true := oneB _
 have hnv : (v :: vs) ++ by2 t ++ by2 c ≠ [] := by simp
 cases F with
 | nil =>
  refine eI (⟨0, none, en, [], a, n, false, v :: vs, []⟩ : RnX) (aI ⟨rfl, (show Tr.get _ 0 = some (AObj.cells [.slice none 0 0, .int .i64 (en : Int)] _) from rfl), rfl, ⟨List.nodup_nil, fun p hp => by cases hp⟩, (aH _), hs, (aY he).symm, fun _ => hr⟩ ?_)
  refine eI ((v :: vs).map byV) (aI (zAi (l := v :: vs) h1s rfl) ?_)
  refine aI (by rw [hby]; simp only [bA]; exact ⟨aX (by simp; omega), aX (by simp; omega)⟩) ?_
  refine aI (by rw [h1s, hby]; simp only [bA, dT]; exact ⟨⟨⟨⟨⟨⟨rfl, rfl⟩, bL (by simp [by2] <;> omega)⟩, rfl⟩, (by simp <;> omega)⟩, (by simp <;> omega)⟩, bL (by simp [by2] <;> omega)⟩) ?_
  refine aI (by rw [h1s, hby]; simp only [bA, dT]; exact ⟨⟨⟨⟨⟨⟨rfl, rfl⟩, bL (by simp [by2] <;> omega)⟩, rfl⟩, (by simp <;> omega)⟩, (by simp <;> omega)⟩, bL (by simp [by2] <;> omega)⟩) ?_
  have hv : sq 8 (0 + (v :: vs).length + 2 + 2) U = ovN 8 ((v :: vs) ++ by2 t ++ by2 c) := by rw [zCk 8 hnv]; simp [by2]
  refine ⟨_, _, _, 8, 1, congrArg (fun v => Res.ret (.tuple #[v, .int .i64 0]) _ _ _) hv, fun _ => ⟨by decide, by decide, ?_⟩, .inl ⟨rfl, rfl⟩⟩
  refine (show some (AObj.cells _ _) = some (AObj.cells _ _) from congrArg (fun l => some (AObj.cells l _)) ?_)
  simp [h1s, by2, aD, List.take_append]
 | cons p F =>
  refine eI (⟨0, none, en, [], a, n, false, v :: vs, p :: F⟩ : RnX) (aI ⟨rfl, (show Tr.get _ 0 = some (AObj.cells [.slice none 0 0, .int .i64 (en : Int)] _) from rfl), rfl, ⟨List.nodup_nil, fun p hp => by cases hp⟩, (aH _), hs, (aY he).symm, fun _ => hr⟩ ?_)
  refine eI ((v :: vs).map byV) (aI (zAi (l := v :: vs) h1s rfl) ?_)
  refine aI (by rw [hby]; simp only [bA]; exact ⟨aX (by simp; omega), aX (by simp; omega)⟩) ?_
  refine aI (by rw [h1s, hby]; simp only [bA, dT]; exact ⟨⟨⟨⟨⟨⟨rfl, rfl⟩, bL (by simp [by2] <;> omega)⟩, rfl⟩, (by simp <;> omega)⟩, (by simp <;> omega)⟩, bL (by simp [by2] <;> omega)⟩) ?_
  refine aI (by rw [h1s, hby]; simp only [bA, dT]; exact ⟨⟨⟨⟨⟨⟨rfl, rfl⟩, bL (by simp [by2] <;> omega)⟩, rfl⟩, (by simp <;> omega)⟩, (by simp <;> omega)⟩, bL (by simp [by2] <;> omega)⟩) ?_
  have hv : sq 9 (0 + (v :: vs).length + 2 + 2) U = ovN 9 ((v :: vs) ++ by2 t ++ by2 c) := by rw [zCk 9 hnv]; simp [by2]
  refine ⟨_, _, _, 9, 5, congrArg (fun v => Res.ret (.tuple #[v, .int .i64 0]) _ _ _) hv, fun _ => ⟨by decide, by decide, ?_⟩, .inr ⟨aZ _ _, ⟨by decide, by decide, fun _ => by decide⟩, rfl, rfl⟩⟩
  refine (show some (AObj.cells _ _) = some (AObj.cells _ _) from congrArg (fun l => some (AObj.cells l _)) ?_)
  simp [h1s, by2, aD, List.take_append]
theorem zVm (y : AskY) (en : Nat) (T : List (Bl × Nat)) (hT : goodT T) (hT0 : T ≠ []) (hTl : T.length <= 900000000) (hs : shortB y.n = true) : RpFn1 49 y.xs en T (y.D en T) := by
 obtain ⟨a, n, t, c⟩ := y
 have hs : shortB n = true := hs
 have h1s : (Try.prog.types[5]).size = 1 := by kernel_rfl
 have hby : (Try.prog.types[5]).bytes = 1 := by kernel_rfl
 refine zBh mixed tbWr8 [5] Try.func49 (c := bodyOf Try.f49) (by kernel_rfl) ?_
 refine aI hs ?_
 unfold AskY.D askD
 refine ifK (fun g => ?_) (fun g => ?_)
 ·have g : (labels (bs n)).2 ≠ 0 := by simpa using g
  rw [if_pos g]
  exact ⟨_, _, _, 0, 1, rfl, fun h => ab rfl h, .inl ⟨rfl, rfl⟩, by show some (AObj.cells _ _) = _; simp, by show some (AObj.cells _ _) = _; simp⟩
 have gz : ¬ (labels (bs n)).2 ≠ 0 := by simpa using g
 clear g
 rw [if_neg gz]
 refine eI t (aI rfl ?_)
 refine ifK (fun g2 => ?_) (fun g2 => ?_)
 rotate_left
 ·rw [show numB t 65535 = false from g2]
  refine eI c (aI rfl ?_)
  refine ifK (fun g3 => ?_) (fun g3 => ?_)
  ·exact ⟨_, _, _, 0, 1, rfl, fun h => ab rfl h, .inl ⟨rfl, rfl⟩, by show some (AObj.cells _ _) = _; simp, by show some (AObj.cells _ _) = _; simp⟩
  exact ⟨_, _, _, 0, 1, rfl, fun h => ab rfl h, .inl ⟨rfl, rfl⟩, by show some (AObj.cells _ _) = _; simp, by show some (AObj.cells _ _) = _; simp⟩
 have k2 : numB t 65535 = true := g2
 clear g2
 rw [k2]
 refine eI c (aI rfl ?_)
 refine ifK (fun g3 => ?_) (fun g3 => ?_)
 rotate_left
 ·rw [show numB c 65535 = false from g3]
  exact ⟨_, _, _, 0, 1, rfl, fun h => ab rfl h, .inl ⟨rfl, rfl⟩, by show some (AObj.cells _ _) = _; simp, by show some (AObj.cells _ _) = _; simp⟩
 have k3 : numB c 65535 = true := g3
 clear g3
 rw [k3, show (true && true) = true from rfl, if_pos rfl]
 by_cases he : pnE en a n ≠ 0
 ·rw [if_pos he]
  refine eI (⟨0, some 1, en, T, a, n, true, [], []⟩ : RnX) (aI ⟨rfl, (show Tr.get _ 0 = some (AObj.cells [sq 1 T.length U, .int .i64 (en : Int)] _) from rfl), ⟨(show Tr.get _ 1 = some (AObj.cells (T.flatMap layT.g) _) from rfl), hT0⟩, hT, (aW hTl (by decide)), hs, (aX he).symm, fun h => by cases h⟩ ?_)
  refine ifK (fun _ => ?_) (fun g => ab (show pnE en a n = 0 by simpa using g) he)
  exact ⟨_, _, _, 0, 1, rfl, fun h => ab rfl h, .inl ⟨rfl, rfl⟩, by show some (AObj.cells _ _) = _; simp, by show some (AObj.cells _ _) = _; simp⟩
 rw [if_neg he]
 have he0 : pnE en a n = 0 := Decidable.not_not.1 he
 obtain ⟨⟨p1, p2⟩, p3, p4, p5⟩ := zCr he0
 have hpos := ((zAu (bs n)).1 p4).1.pos
 obtain ⟨r, hr⟩ : ∃ r, packN T a.toNat (bs n).length (bs n) 0 = r := ⟨_, rfl⟩
 have hl1 := zAw T a.toNat (bs n).length (bs n) 0
 have hne := zCn T a.toNat (bs n).length (bs n) 0 hpos
 rw [hr] at hl1 hne
 simp only [hr]
 obtain ⟨o, F⟩ := r
 have hl1 : o.length <= 257 := by have : o.length <= (bs n).length + 2 := hl1; omega
 obtain ⟨t, rfl, ht⟩ := zDd k2
 obtain ⟨c, rfl, hc⟩ := zDd k3
 cases o with
 | nil => exact ab rfl hne
 | cons v vs =>
 have hvl : vs.length + 1 <= 257 := hl1
 have hone : oneL ((v :: vs).map byV) = true := oneB _
 have hnv : (v :: vs) ++ by2 t ++ by2 c ≠ [] := by simp
 cases F with
 | nil =>
  refine eI (⟨0, some 1, en, T, a, n, false, v :: vs, []⟩ : RnX) (aI ⟨rfl, (show Tr.get _ 0 = some (AObj.cells [sq 1 T.length U, .int .i64 (en : Int)] _) from rfl), ⟨(show Tr.get _ 1 = some (AObj.cells (T.flatMap layT.g) _) from rfl), hT0⟩, hT, (aW hTl (by decide)), hs, (aY he).symm, fun _ => hr⟩ ?_)
  refine eI ((v :: vs).map byV) (aI (zAi (l := v :: vs) h1s rfl) ?_)
  refine aI (by rw [hby]; simp only [bA]; exact ⟨aX (by simp; omega), aX (by simp; omega)⟩) ?_
  refine aI (by rw [h1s, hby]; simp only [bA, dT]; exact ⟨⟨⟨⟨⟨⟨rfl, rfl⟩, bL (by simp [by2] <;> omega)⟩, rfl⟩, (by simp <;> omega)⟩, (by simp <;> omega)⟩, bL (by simp [by2] <;> omega)⟩) ?_
  refine aI (by rw [h1s, hby]; simp only [bA, dT]; exact ⟨⟨⟨⟨⟨⟨rfl, rfl⟩, bL (by simp [by2] <;> omega)⟩, rfl⟩, (by simp <;> omega)⟩, (by simp <;> omega)⟩, bL (by simp [by2] <;> omega)⟩) ?_
  have hv : sq 9 (0 + (v :: vs).length + 2 + 2) U = ovN 9 ((v :: vs) ++ by2 t ++ by2 c) := by rw [zCk 9 hnv]; simp [by2]
  refine ⟨_, _, _, 9, 1, congrArg (fun v => Res.ret (.tuple #[v, .int .i64 0]) _ _ _) hv, fun _ => ⟨by decide, by decide, ?_⟩, .inl ⟨rfl, rfl⟩, by show some (AObj.cells _ _) = _; simp, by show some (AObj.cells _ _) = _; simp⟩
  refine (show some (AObj.cells _ _) = some (AObj.cells _ _) from congrArg (fun l => some (AObj.cells l _)) ?_)
  simp [h1s, by2, aD, List.take_append]
 | cons p F =>
  refine eI (⟨0, some 1, en, T, a, n, false, v :: vs, p :: F⟩ : RnX) (aI ⟨rfl, (show Tr.get _ 0 = some (AObj.cells [sq 1 T.length U, .int .i64 (en : Int)] _) from rfl), ⟨(show Tr.get _ 1 = some (AObj.cells (T.flatMap layT.g) _) from rfl), hT0⟩, hT, (aW hTl (by decide)), hs, (aY he).symm, fun _ => hr⟩ ?_)
  refine eI ((v :: vs).map byV) (aI (zAi (l := v :: vs) h1s rfl) ?_)
  refine aI (by rw [hby]; simp only [bA]; exact ⟨aX (by simp; omega), aX (by simp; omega)⟩) ?_
  refine aI (by rw [h1s, hby]; simp only [bA, dT]; exact ⟨⟨⟨⟨⟨⟨rfl, rfl⟩, bL (by simp [by2] <;> omega)⟩, rfl⟩, (by simp <;> omega)⟩, (by simp <;> omega)⟩, bL (by simp [by2] <;> omega)⟩) ?_
  refine aI (by rw [h1s, hby]; simp only [bA, dT]; exact ⟨⟨⟨⟨⟨⟨rfl, rfl⟩, bL (by simp [by2] <;> omega)⟩, rfl⟩, (by simp <;> omega)⟩, (by simp <;> omega)⟩, bL (by simp [by2] <;> omega)⟩) ?_
  have hv : sq 10 (0 + (v :: vs).length + 2 + 2) U = ovN 10 ((v :: vs) ++ by2 t ++ by2 c) := by rw [zCk 10 hnv]; simp [by2]
  refine ⟨_, _, _, 10, 6, congrArg (fun v => Res.ret (.tuple #[v, .int .i64 0]) _ _ _) hv, fun _ => ⟨by decide, by decide, ?_⟩, .inr ⟨aZ _ _, by decide, by decide, fun _ => by decide⟩, by show some (AObj.cells _ _) = _; simp, by show some (AObj.cells _ _) = _; simp⟩
  refine (show some (AObj.cells _ _) = some (AObj.cells _ _) from congrArg (fun l => some (AObj.cells l _)) ?_)
  simp [h1s, by2, aD, List.take_append]
noncomputable def ct_ask : Ct Try.prog 0 := ct_pk 45 AskY AskY.xs AskY.inj (fun _ => rfl) (fun y => shortB y.n = true) (fun en T y => y.D en T) (fun y en T ck hT hs => ask_fn y en T ck hT hs)
noncomputable def ct_recw : Ct Try.prog 0 := ct_pk 47 WrtY WrtY.xs WrtY.inj (fun _ => rfl) (fun y => y.x.ok = true) (fun en T y => y.D en T) (fun y en T ck hT hs => recw_fn y en T ck hT hs)
noncomputable def ct_rask : Ct Try.prog 0 := ct_rpk 49 AskY AskY.xs AskY.inj (fun _ => rfl) (fun y => shortB y.n = true) (fun en T y => y.D en T) 900000000 (fun y en hs => zVl y en hs) (fun y en T hT hT0 hTl hs => zVm y en T hT hT0 hTl hs)
noncomputable def tbWr9 : Tb Try.prog 0 := tbOf mixed [zJi, ct_rask, ct_rput32, ct_rwrite, zKs]
theorem zPq (en : Nat) (T : List (Bl × Nat)) (a : Int) (n : ByteArray) (t c : Int) (ht : numB t 65535 = true) (hc : numB c 65535 = true) (hn : (labels (bs n)).2 = 0) :
  (∃ e, e ≠ 0 /\ askD en T a n t c = (e, [], [], en)) \/ ∃ u us F en', askD en T a n t c = (0, u :: us, F, en') /\ us.length + 1 <= 261 /\ 0 <= a /\ a <= 65535 /\ F.length <= 300 := by
 unfold askD
 rw [if_neg (aL hn), ht, hc, show (true && true) = true from rfl, if_pos rfl]
 by_cases he : pnE en a n ≠ 0
 ·rw [if_pos he]; exact .inl ⟨_, he, rfl⟩
 rw [if_neg he]
 obtain ⟨⟨p1, p2⟩, p3, p4, p5⟩ := zCr (Decidable.not_not.1 he)
 have hpos := ((zAu (bs n)).1 p4).1.pos
 have hl1 := zAw T a.toNat (bs n).length (bs n) 0
 have hl2 := zBd T a.toNat (bs n).length (bs n) 0
 have hne := zCn T a.toNat (bs n).length (bs n) 0 hpos
 obtain ⟨r, hr⟩ : ∃ r, packN T a.toNat (bs n).length (bs n) 0 = r := ⟨_, rfl⟩
 rw [hr] at hl1 hl2 hne ⊢
 obtain ⟨o, F⟩ := r
 cases o with
 | nil => exact ab rfl hne
 | cons v vs => exact .inr ⟨v, vs ++ by2 t.toNat ++ by2 c.toNat, F, _, rfl, by have : vs.length + 1 <= (bs n).length + 2 := hl1; simp [by2]; omega, p1, p2, by have h1 : vs.length + 1 <= (bs n).length + 2 := hl1; have h2 : F.length <= vs.length + 1 := hl2; omega⟩
theorem rrecw0_fn (y : WrtY) (en : Nat) (hs : y.x.ok = true) : RpFn0 50 y.xs en (y.D en []) := by
 obtain ⟨a, x⟩ := y
 have hs : x.ok = true := hs
 have h1s : (Try.prog.types[5]).size = 1 := by kernel_rfl
 have hby : (Try.prog.types[5]).bytes = 1 := by kernel_rfl
 obtain ⟨hn, hd⟩ := RcX.ok1 hs
 have hsh : shortB x.n = true := zCu (by omega)
 unfold WrtY.D recD
 obtain ⟨n, t, c, w, d⟩ := x
 have hd : (bs d).length <= 100000000 := hd
 refine zBh mixed tbWr9 [5, 6] Try.func50 (c := bodyOf Try.f50) (by kernel_rfl) ?_
 refine aI hs ?_
 refine ifK (fun g => ?_) (fun g => ?_)
 ·have g : recC ⟨n, t, c, w, d⟩ ≠ 0 := by simpa using g
  rw [if_pos g]
  exact ⟨_, _, _, 0, 1, rfl, fun h => ab rfl h, .inl ⟨rfl, rfl⟩⟩
 have gz : recC ⟨n, t, c, w, d⟩ = 0 := by simpa using g
 clear g
 rw [if_neg (aL gz)]
 obtain ⟨z1, z2, z3, z4, z5⟩ := zEr gz
 obtain ⟨w, rfl, hw⟩ := zDd z4
 rcases zPq en [] a n t c z2 z3 z1 with ⟨e, he, hA⟩ | ⟨u, us, F, en1, hA, hul, ha1, ha2, hFl⟩
 ·simp only [hA]
  rw [if_pos he]
  refine eI (⟨0, none, en, [], ⟨a, n, t, c⟩, e, [], [], en⟩ : RpY AskY) (aI ⟨rfl, (show Tr.get _ 0 = some (AObj.cells [.slice none 0 0, .int .i64 (en : Int)] _) from rfl), rfl, ⟨List.nodup_nil, fun p hp => by cases hp⟩, (aH _), hsh, hA⟩ ?_)
  refine ifK (fun _ => ?_) (fun g => ab (show e = 0 by simpa using g) he)
  exact ⟨_, _, _, 0, 1, rfl, fun h => ab rfl h, .inl ⟨rfl, rfl⟩⟩
 obtain ⟨k, rfl⟩ : ∃ k : Nat, a = (k : Int) := ⟨a.toNat, by omega⟩
 have hgd : goodT ([] ++ F) := by have := zHq (en := en) (a := (k : Int)) (n := n) (t := t) (c := c) (T := []) ⟨List.nodup_nil, fun p hp => by cases hp⟩; rw [hA] at this; exact this
 simp only [hA]
 rw [if_neg (aL rfl)]
 have hlen : (k : Int).toNat + (u :: us ++ by4 (w : Int).toNat).length + 2 = k + (us.length + 5) + 2 := by simp [by4]
 have hat : IntKind.i64.wrap (IntKind.i64.wrap ((k : Int) + ((us.length + 1 + 4 : Nat) : Int)) + 2) = ((k + (us.length + 5) + 2 : Nat) : Int) := by
  have i1 : IntKind.i64.wrap ((k : Int) + ((us.length + 1 + 4 : Nat) : Int)) = ((k + (us.length + 5) : Nat) : Int) := by rw [wrapN (by omega) (by omega)]; omega
  rw [i1, wrapN (by omega) (by omega)]; omega
 rw [hlen]
 have hle := zVz (en := en1) (T := [] ++ F) (a := ((k + (us.length + 5) + 2 : Nat) : Int)) (t := t) (l := bs d)
 have hez := wrD_e (en := en1) (T := [] ++ F) (a := ((k + (us.length + 5) + 2 : Nat) : Int)) (t := t) (l := bs d)
 have hld := (zCm z5).2.2.1
 have hld : (bs d).length <= 65535 := hld
 obtain ⟨R, hR⟩ : ∃ R, wrD en1 ([] ++ F) ((k + (us.length + 5) + 2 : Nat) : Int) t (bs d) = R := ⟨_, rfl⟩
 simp only [hR]
 rw [hR] at hle hez
 obtain ⟨e2, o2, F2, en2⟩ := R
 have hl2 : o2.length <= 65535 := aW hle hld
 have hez : e2 ≠ 0 -> o2 = [] := hez
 clear hle
 cases F with
 | nil =>
  refine eI (⟨0, none, en, [], ⟨k, n, t, c⟩, 0, u :: us, [], en1⟩ : RpY AskY) (aI ⟨rfl, (show Tr.get _ 0 = some (AObj.cells [.slice none 0 0, .int .i64 (en : Int)] _) from rfl), rfl, ⟨List.nodup_nil, fun p hp => by cases hp⟩, (aH _), hsh, hA⟩ ?_)
  refine eI w (aI ⟨rfl, (show w < 4294967296 by omega)⟩ ?_)
  refine aI (by rw [h1s, hby]; simp only [bA, dT]; exact ⟨⟨⟨⟨⟨⟨rfl, rfl⟩, bL (by simp [by2, by4] <;> omega)⟩, rfl⟩, (by first | omega | (simp <;> omega))⟩, (by first | omega | (simp <;> omega))⟩, bL (by simp [by2, by4] <;> omega)⟩) ?_
  cases o2 with
  | nil =>
   cases F2 with
   | nil =>
    refine eI (⟨0, none, en1, [], ((k + (us.length + 5) + 2 : Nat) : Int), t, d, e2, [], [], en2⟩ : RwX) (aI ⟨by rw [<- hat] <;> rfl, (show Tr.get _ 0 = some (AObj.cells [.slice none 0 0, .int .i64 (en1 : Int)] _) from rfl), rfl, ⟨List.nodup_nil, fun p hp => by cases hp⟩, (aH _), hd, (by have := hR; skip; exact this)⟩ ?_)
    refine ifK (fun h2 => ?_) (fun h2 => ?_)
    ·have h2 : e2 ≠ 0 := by simpa using h2
     rw [if_pos h2]
     exact ⟨_, _, _, 0, 1, rfl, fun h => ab rfl h, .inl ⟨rfl, rfl⟩⟩
    have h2 : e2 = 0 := by simpa using h2
    subst h2
    rw [if_neg (aL rfl)]
    refine eI 0 (aI rfl ?_)
    refine eI ((by2 0).map byV) (aI (zAi (l := by2 0) h1s rfl) ?_)
    refine aI (by rw [h1s, hby]; simp only [bA, dT]; exact ⟨⟨⟨⟨⟨⟨rfl, rfl⟩, bL (by simp [by2, by4] <;> omega)⟩, (oneB _)⟩, (by first | omega | (simp <;> omega))⟩, (by first | omega | (simp <;> omega))⟩, bL (by simp [by2, by4] <;> omega)⟩) ?_
    have hv : sq 6 (us.length + 1 + 4 + 2) U = ovN 6 ((u :: us ++ by4 w) ++ by2 0 ++ []) := by rw [zCk 6 (by simp)]; simp [by2, by4]
    refine ⟨_, _, _, 6, 1, congrArg (fun v => Res.ret (.tuple #[v, .int .i64 0]) _ _ _) hv, fun _ => ⟨by decide, by decide, ?_⟩, .inl ⟨rfl, rfl⟩⟩
    refine (show some (AObj.cells _ _) = some (AObj.cells _ _) from congrArg (fun l => some (AObj.cells l _)) ?_)
    simp [h1s, by2, by4, aD, List.take_append]
   | cons q G =>
    refine eI (⟨0, none, en1, [], ((k + (us.length + 5) + 2 : Nat) : Int), t, d, e2, [], (q :: G), en2⟩ : RwX) (aI ⟨by rw [<- hat] <;> rfl, (show Tr.get _ 0 = some (AObj.cells [.slice none 0 0, .int .i64 (en1 : Int)] _) from rfl), rfl, ⟨List.nodup_nil, fun p hp => by cases hp⟩, (aH _), hd, (by have := hR; skip; exact this)⟩ ?_)
    refine ifK (fun h2 => ?_) (fun h2 => ?_)
    ·have h2 : e2 ≠ 0 := by simpa using h2
     rw [if_pos h2]
     exact ⟨_, _, _, 0, 5, rfl, fun h => ab rfl h, .inr ⟨by simp, ⟨by decide, by decide, fun h => ab rfl h⟩, by show some (AObj.cells _ _) = _; simp, by show some (AObj.cells _ _) = _; simp⟩⟩
    have h2 : e2 = 0 := by simpa using h2
    subst h2
    rw [if_neg (aL rfl)]
    refine eI 0 (aI rfl ?_)
    refine eI ((by2 0).map byV) (aI (zAi (l := by2 0) h1s rfl) ?_)
    refine aI (by rw [h1s, hby]; simp only [bA, dT]; exact ⟨⟨⟨⟨⟨⟨rfl, rfl⟩, bL (by simp [by2, by4] <;> omega)⟩, (oneB _)⟩, (by first | omega | (simp <;> omega))⟩, (by first | omega | (simp <;> omega))⟩, bL (by simp [by2, by4] <;> omega)⟩) ?_
    have hv : sq 7 (us.length + 1 + 4 + 2) U = ovN 7 ((u :: us ++ by4 w) ++ by2 0 ++ []) := by rw [zCk 7 (by simp)]; simp [by2, by4]
    refine ⟨_, _, _, 7, 5, congrArg (fun v => Res.ret (.tuple #[v, .int .i64 0]) _ _ _) hv, fun _ => ⟨by decide, by decide, ?_⟩, .inr ⟨by simp, ⟨by decide, by decide, fun _ => by decide⟩, by show some (AObj.cells _ _) = _; simp, by show some (AObj.cells _ _) = _; simp⟩⟩
    refine (show some (AObj.cells _ _) = some (AObj.cells _ _) from congrArg (fun l => some (AObj.cells l _)) ?_)
    simp [h1s, by2, by4, aD, List.take_append]
  | cons x xs =>
   have h0 : e2 = 0 := Decidable.byContradiction fun h => by cases hez h
   subst h0
   have hxl : xs.length + 1 <= 65535 := hl2
   have hone : oneL ((x :: xs).map byV) = true := oneB _
   obtain ⟨z, hz⟩ : ∃ z : Int, z = ((xs.length + 1 : Nat) : Int) := ⟨_, rfl⟩
   have hz2 : z.toNat = xs.length + 1 := by omega
   cases F2 with
   | nil =>
    refine eI (⟨0, none, en1, [], ((k + (us.length + 5) + 2 : Nat) : Int), t, d, 0, (x :: xs), [], en2⟩ : RwX) (aI ⟨by rw [<- hat] <;> rfl, (show Tr.get _ 0 = some (AObj.cells [.slice none 0 0, .int .i64 (en1 : Int)] _) from rfl), rfl, ⟨List.nodup_nil, fun p hp => by cases hp⟩, (aH _), hd, (by have := hR; skip; exact this)⟩ ?_)
    rw [if_neg (aL rfl)]
    refine eI z (aI (by rw [hz] <;> rfl) ?_)
    refine ifK (fun _ => ?_) (fun g => ab (oF g) (aL (by omega)))
    refine eI ((by2 z.toNat).map byV) (aI (zAi (l := by2 z.toNat) h1s rfl) ?_)
    refine aI (by rw [h1s, hby]; simp only [bA, dT]; exact ⟨⟨⟨⟨⟨⟨rfl, rfl⟩, bL (by simp [by2, by4] <;> omega)⟩, (oneB _)⟩, (by first | omega | (simp <;> omega))⟩, (by first | omega | (simp <;> omega))⟩, bL (by simp [by2, by4] <;> omega)⟩) ?_
    refine eI ((x :: xs).map byV) (aI (zAi (l := x :: xs) h1s rfl) ?_)
    refine aI (by rw [h1s, hby]; simp only [bA, dT]; exact ⟨⟨⟨⟨⟨⟨rfl, rfl⟩, bL (by simp [by2, by4] <;> omega)⟩, hone⟩, (by first | omega | (simp <;> omega))⟩, (by first | omega | (simp <;> omega))⟩, bL (by simp [by2, by4] <;> omega)⟩) ?_
    have hv : sq 8 (us.length + 1 + 4 + 2 + (xs.length + 1)) U = ovN 8 ((u :: us ++ by4 w) ++ by2 (xs.length + 1) ++ (x :: xs)) := by rw [zCk 8 (by simp)]; simp [by2, by4]; try omega
    refine ⟨_, _, _, 8, 1, congrArg (fun v => Res.ret (.tuple #[v, .int .i64 0]) _ _ _) hv, fun _ => ⟨by decide, by decide, ?_⟩, .inl ⟨rfl, rfl⟩⟩
    refine (show some (AObj.cells _ _) = some (AObj.cells _ _) from congrArg (fun l => some (AObj.cells l _)) ?_)
    simp [h1s, by2, by4, aD, List.take_append, hz2]
   | cons q G =>
    refine eI (⟨0, none, en1, [], ((k + (us.length + 5) + 2 : Nat) : Int), t, d, 0, (x :: xs), (q :: G), en2⟩ : RwX) (aI ⟨by rw [<- hat] <;> rfl, (show Tr.get _ 0 = some (AObj.cells [.slice none 0 0, .int .i64 (en1 : Int)] _) from rfl), rfl, ⟨List.nodup_nil, fun p hp => by cases hp⟩, (aH _), hd, (by have := hR; skip; exact this)⟩ ?_)
    rw [if_neg (aL rfl)]
    refine eI z (aI (by rw [hz] <;> rfl) ?_)
    refine ifK (fun _ => ?_) (fun g => ab (oF g) (aL (by omega)))
    refine aI (by rw [h1s, hby]; simp only [bA, dT]; exact ⟨⟨⟨⟨⟨⟨rfl, rfl⟩, bL (by simp [by2, by4] <;> omega)⟩, rfl⟩, (by first | omega | (simp <;> omega))⟩, (by first | omega | (simp <;> omega))⟩, bL (by simp [by2, by4] <;> omega)⟩) ?_
    refine eI ((x :: xs).map byV) (aI (zAi (l := x :: xs) h1s rfl) ?_)
    refine aI (by rw [h1s, hby]; simp only [bA, dT]; exact ⟨⟨⟨⟨⟨⟨rfl, rfl⟩, bL (by simp [by2, by4] <;> omega)⟩, hone⟩, (by first | omega | (simp <;> omega))⟩, (by first | omega | (simp <;> omega))⟩, bL (by simp [by2, by4] <;> omega)⟩) ?_
    have hv : sq 9 (us.length + 1 + 4 + 2 + (xs.length + 1)) U = ovN 9 ((u :: us ++ by4 w) ++ by2 (xs.length + 1) ++ (x :: xs)) := by rw [zCk 9 (by simp)]; simp [by2, by4]; try omega
    refine ⟨_, _, _, 9, 6, congrArg (fun v => Res.ret (.tuple #[v, .int .i64 0]) _ _ _) hv, fun _ => ⟨by decide, by decide, ?_⟩, .inr ⟨by simp, ⟨by decide, by decide, fun _ => by decide⟩, by show some (AObj.cells _ _) = _; simp, by show some (AObj.cells _ _) = _; simp⟩⟩
    refine (show some (AObj.cells _ _) = some (AObj.cells _ _) from congrArg (fun l => some (AObj.cells l _)) ?_)
    simp [h1s, by2, by4, aD, List.take_append, hz2]
 | cons p F =>
  refine eI (⟨0, none, en, [], ⟨k, n, t, c⟩, 0, u :: us, (p :: F), en1⟩ : RpY AskY) (aI ⟨rfl, (show Tr.get _ 0 = some (AObj.cells [.slice none 0 0, .int .i64 (en : Int)] _) from rfl), rfl, ⟨List.nodup_nil, fun p hp => by cases hp⟩, (aH _), hsh, hA⟩ ?_)
  refine eI w (aI ⟨rfl, (show w < 4294967296 by omega)⟩ ?_)
  refine aI (by rw [h1s, hby]; simp only [bA, dT]; exact ⟨⟨⟨⟨⟨⟨rfl, rfl⟩, bL (by simp [by2, by4] <;> omega)⟩, rfl⟩, (by first | omega | (simp <;> omega))⟩, (by first | omega | (simp <;> omega))⟩, bL (by simp [by2, by4] <;> omega)⟩) ?_
  cases o2 with
  | nil =>
   cases F2 with
   | nil =>
    refine eI (⟨0, some 3, en1, (p :: F), ((k + (us.length + 5) + 2 : Nat) : Int), t, d, e2, [], [], en2⟩ : RwX) (aI ⟨by rw [<- hat] <;> rfl, (show Tr.get _ 0 = some (AObj.cells [sq 3 (p :: F).length U, .int .i64 (en1 : Int)] _) from rfl), ⟨(show Tr.get _ 3 = some (AObj.cells ((p :: F).flatMap layT.g) _) from rfl), by simp⟩, hgd, (show List.length (p :: F) <= 900000000 by simp at hFl ⊢; omega), hd, hR⟩ ?_)
    refine ifK (fun h2 => ?_) (fun h2 => ?_)
    ·have h2 : e2 ≠ 0 := by simpa using h2
     rw [if_pos h2]
     exact ⟨_, _, _, 0, 3, rfl, fun h => ab rfl h, .inr ⟨by simp, ⟨by decide, by decide, fun h => ab rfl h⟩, by show some (AObj.cells _ _) = _; simp, by show some (AObj.cells _ _) = _; simp⟩⟩
    have h2 : e2 = 0 := by simpa using h2
    subst h2
    rw [if_neg (aL rfl)]
    refine eI 0 (aI rfl ?_)
    refine eI ((by2 0).map byV) (aI (zAi (l := by2 0) h1s rfl) ?_)
    refine aI (by rw [h1s, hby]; simp only [bA, dT]; exact ⟨⟨⟨⟨⟨⟨rfl, rfl⟩, bL (by simp [by2, by4] <;> omega)⟩, (oneB _)⟩, (by first | omega | (simp <;> omega))⟩, (by first | omega | (simp <;> omega))⟩, bL (by simp [by2, by4] <;> omega)⟩) ?_
    have hv : sq 7 (us.length + 1 + 4 + 2) U = ovN 7 ((u :: us ++ by4 w) ++ by2 0 ++ []) := by rw [zCk 7 (by simp)]; simp [by2, by4]
    refine ⟨_, _, _, 7, 3, congrArg (fun v => Res.ret (.tuple #[v, .int .i64 0]) _ _ _) hv, fun _ => ⟨by decide, by decide, ?_⟩, .inr ⟨by simp, ⟨by decide, by decide, fun _ => by decide⟩, by show some (AObj.cells _ _) = _; simp, by show some (AObj.cells _ _) = _; simp⟩⟩
    refine (show some (AObj.cells _ _) = some (AObj.cells _ _) from congrArg (fun l => some (AObj.cells l _)) ?_)
    simp [h1s, by2, by4, aD, List.take_append]
   | cons q G =>
    refine eI (⟨0, some 3, en1, (p :: F), ((k + (us.length + 5) + 2 : Nat) : Int), t, d, e2, [], (q :: G), en2⟩ : RwX) (aI ⟨by rw [<- hat] <;> rfl, (show Tr.get _ 0 = some (AObj.cells [sq 3 (p :: F).length U, .int .i64 (en1 : Int)] _) from rfl), ⟨(show Tr.get _ 3 = some (AObj.cells ((p :: F).flatMap layT.g) _) from rfl), by simp⟩, hgd, (show List.length (p :: F) <= 900000000 by simp at hFl ⊢; omega), hd, hR⟩ ?_)
    refine ifK (fun h2 => ?_) (fun h2 => ?_)
    ·have h2 : e2 ≠ 0 := by simpa using h2
     rw [if_pos h2]
     exact ⟨_, _, _, 0, 6, rfl, fun h => ab rfl h, .inr ⟨by simp, ⟨by decide, by decide, fun h => ab rfl h⟩, by show some (AObj.cells _ _) = _; simp, by show some (AObj.cells _ _) = _; simp⟩⟩
    have h2 : e2 = 0 := by simpa using h2
    subst h2
    rw [if_neg (aL rfl)]
    refine eI 0 (aI rfl ?_)
    refine aI (by rw [h1s, hby]; simp only [bA, dT]; exact ⟨⟨⟨⟨⟨⟨rfl, rfl⟩, bL (by simp [by2, by4] <;> omega)⟩, rfl⟩, (by first | omega | (simp <;> omega))⟩, (by first | omega | (simp <;> omega))⟩, bL (by simp [by2, by4] <;> omega)⟩) ?_
    have hv : sq 8 (us.length + 1 + 4 + 2) U = ovN 8 ((u :: us ++ by4 w) ++ by2 0 ++ []) := by rw [zCk 8 (by simp)]; simp [by2, by4]
    refine ⟨_, _, _, 8, 6, congrArg (fun v => Res.ret (.tuple #[v, .int .i64 0]) _ _ _) hv, fun _ => ⟨by decide, by decide, ?_⟩, .inr ⟨by simp, ⟨by decide, by decide, fun _ => by decide⟩, by show some (AObj.cells _ _) = _; simp, by show some (AObj.cells _ _) = _; simp⟩⟩
    refine (show some (AObj.cells _ _) = some (AObj.cells _ _) from congrArg (fun l => some (AObj.cells l _)) ?_)
    simp [h1s, by2, by4, aD, List.take_append]
  | cons x xs =>
   have h0 : e2 = 0 := Decidable.byContradiction fun h => by cases hez h
   subst h0
   have hxl : xs.length + 1 <= 65535 := hl2
   have hone : oneL ((x :: xs).map byV) = true := oneB _
   obtain ⟨z, hz⟩ : ∃ z : Int, z = ((xs.length + 1 : Nat) : Int) := ⟨_, rfl⟩
   have hz2 : z.toNat = xs.length + 1 := by omega
   cases F2 with
   | nil =>
    refine eI (⟨0, some 3, en1, (p :: F), ((k + (us.length + 5) + 2 : Nat) : Int), t, d, 0, (x :: xs), [], en2⟩ : RwX) (aI ⟨by rw [<- hat] <;> rfl, (show Tr.get _ 0 = some (AObj.cells [sq 3 (p :: F).length U, .int .i64 (en1 : Int)] _) from rfl), ⟨(show Tr.get _ 3 = some (AObj.cells ((p :: F).flatMap layT.g) _) from rfl), by simp⟩, hgd, (show List.length (p :: F) <= 900000000 by simp at hFl ⊢; omega), hd, hR⟩ ?_)
    rw [if_neg (aL rfl)]
    refine eI z (aI (by rw [hz] <;> rfl) ?_)
    refine ifK (fun _ => ?_) (fun g => ab (oF g) (aL (by omega)))
    refine aI (by rw [h1s, hby]; simp only [bA, dT]; exact ⟨⟨⟨⟨⟨⟨rfl, rfl⟩, bL (by simp [by2, by4] <;> omega)⟩, rfl⟩, (by first | omega | (simp <;> omega))⟩, (by first | omega | (simp <;> omega))⟩, bL (by simp [by2, by4] <;> omega)⟩) ?_
    refine eI ((x :: xs).map byV) (aI (zAi (l := x :: xs) h1s rfl) ?_)
    refine aI (by rw [h1s, hby]; simp only [bA, dT]; exact ⟨⟨⟨⟨⟨⟨rfl, rfl⟩, bL (by simp [by2, by4] <;> omega)⟩, hone⟩, (by first | omega | (simp <;> omega))⟩, (by first | omega | (simp <;> omega))⟩, bL (by simp [by2, by4] <;> omega)⟩) ?_
    have hv : sq 9 (us.length + 1 + 4 + 2 + (xs.length + 1)) U = ovN 9 ((u :: us ++ by4 w) ++ by2 (xs.length + 1) ++ (x :: xs)) := by rw [zCk 9 (by simp)]; simp [by2, by4]; try omega
    refine ⟨_, _, _, 9, 3, congrArg (fun v => Res.ret (.tuple #[v, .int .i64 0]) _ _ _) hv, fun _ => ⟨by decide, by decide, ?_⟩, .inr ⟨by simp, ⟨by decide, by decide, fun _ => by decide⟩, by show some (AObj.cells _ _) = _; simp, by show some (AObj.cells _ _) = _; simp⟩⟩
    refine (show some (AObj.cells _ _) = some (AObj.cells _ _) from congrArg (fun l => some (AObj.cells l _)) ?_)
    simp [h1s, by2, by4, aD, List.take_append, hz2]
   | cons q G =>
    refine eI (⟨0, some 3, en1, (p :: F), ((k + (us.length + 5) + 2 : Nat) : Int), t, d, 0, (x :: xs), (q :: G), en2⟩ : RwX) (aI ⟨by rw [<- hat] <;> rfl, (show Tr.get _ 0 = some (AObj.cells [sq 3 (p :: F).length U, .int .i64 (en1 : Int)] _) from rfl), ⟨(show Tr.get _ 3 = some (AObj.cells ((p :: F).flatMap layT.g) _) from rfl), by simp⟩, hgd, (show List.length (p :: F) <= 900000000 by simp at hFl ⊢; omega), hd, hR⟩ ?_)
    rw [if_neg (aL rfl)]
    refine eI z (aI (by rw [hz] <;> rfl) ?_)
    refine ifK (fun _ => ?_) (fun g => ab (oF g) (aL (by omega)))
    refine aI (by rw [h1s, hby]; simp only [bA, dT]; exact ⟨⟨⟨⟨⟨⟨rfl, rfl⟩, bL (by simp [by2, by4] <;> omega)⟩, rfl⟩, (by first | omega | (simp <;> omega))⟩, (by first | omega | (simp <;> omega))⟩, bL (by simp [by2, by4] <;> omega)⟩) ?_
    refine eI ((x :: xs).map byV) (aI (zAi (l := x :: xs) h1s rfl) ?_)
    refine aI (by rw [h1s, hby]; simp only [bA, dT]; exact ⟨⟨⟨⟨⟨⟨rfl, rfl⟩, bL (by simp [by2, by4] <;> omega)⟩, hone⟩, (by first | omega | (simp <;> omega))⟩, (by first | omega | (simp <;> omega))⟩, bL (by simp [by2, by4] <;> omega)⟩) ?_
    have hv : sq 10 (us.length + 1 + 4 + 2 + (xs.length + 1)) U = ovN 10 ((u :: us ++ by4 w) ++ by2 (xs.length + 1) ++ (x :: xs)) := by rw [zCk 10 (by simp)]; simp [by2, by4]; try omega
    refine ⟨_, _, _, 10, 7, congrArg (fun v => Res.ret (.tuple #[v, .int .i64 0]) _ _ _) hv, fun _ => ⟨by decide, by decide, ?_⟩, .inr ⟨by simp, ⟨by decide, by decide, fun _ => by decide⟩, by show some (AObj.cells _ _) = _; simp, by show some (AObj.cells _ _) = _; simp⟩⟩
    refine (show some (AObj.cells _ _) = some (AObj.cells _ _) from congrArg (fun l => some (AObj.cells l _)) ?_)
    simp [h1s, by2, by4, aD, List.take_append, hz2]
theorem rrecw1_fn (y : WrtY) (en : Nat) (T : List (Bl × Nat)) (hT : goodT T) (hT0 : T ≠ []) (hTl : T.length <= 800000000) (hs : y.x.ok = true) : RpFn1 50 y.xs en T (y.D en T) := by
 obtain ⟨a, x⟩ := y
 have hs : x.ok = true := hs
 have h1s : (Try.prog.types[5]).size = 1 := by kernel_rfl
 have hby : (Try.prog.types[5]).bytes = 1 := by kernel_rfl
 obtain ⟨hn, hd⟩ := RcX.ok1 hs
 have hsh : shortB x.n = true := zCu (by omega)
 unfold WrtY.D recD
 obtain ⟨n, t, c, w, d⟩ := x
 have hd : (bs d).length <= 100000000 := hd
 refine zBh mixed tbWr9 [6, 7] Try.func50 (c := bodyOf Try.f50) (by kernel_rfl) ?_
 refine aI hs ?_
 refine ifK (fun g => ?_) (fun g => ?_)
 ·have g : recC ⟨n, t, c, w, d⟩ ≠ 0 := by simpa using g
  rw [if_pos g]
  exact ⟨_, _, _, 0, 1, rfl, fun h => ab rfl h, .inl ⟨rfl, rfl⟩, by show some (AObj.cells _ _) = _; simp, by show some (AObj.cells _ _) = _; simp⟩
 have gz : recC ⟨n, t, c, w, d⟩ = 0 := by simpa using g
 clear g
 rw [if_neg (aL gz)]
 obtain ⟨z1, z2, z3, z4, z5⟩ := zEr gz
 obtain ⟨w, rfl, hw⟩ := zDd z4
 rcases zPq en T a n t c z2 z3 z1 with ⟨e, he, hA⟩ | ⟨u, us, F, en1, hA, hul, ha1, ha2, hFl⟩
 ·simp only [hA]
  rw [if_pos he]
  refine eI (⟨0, some 1, en, T, ⟨a, n, t, c⟩, e, [], [], en⟩ : RpY AskY) (aI ⟨rfl, (show Tr.get _ 0 = some (AObj.cells [sq 1 T.length U, .int .i64 (en : Int)] _) from rfl), ⟨(show Tr.get _ 1 = some (AObj.cells (T.flatMap layT.g) _) from rfl), hT0⟩, hT, (aW hTl (by decide)), hsh, hA⟩ ?_)
  refine ifK (fun _ => ?_) (fun g => ab (show e = 0 by simpa using g) he)
  exact ⟨_, _, _, 0, 1, rfl, fun h => ab rfl h, .inl ⟨rfl, rfl⟩, by show some (AObj.cells _ _) = _; simp, by show some (AObj.cells _ _) = _; simp⟩
 obtain ⟨k, rfl⟩ : ∃ k : Nat, a = (k : Int) := ⟨a.toNat, by omega⟩
 have hgd : goodT (T ++ F) := by have := zHq (en := en) (a := (k : Int)) (n := n) (t := t) (c := c) (T := T) hT; rw [hA] at this; exact this
 simp only [hA]
 rw [if_neg (aL rfl)]
 have hlen : (k : Int).toNat + (u :: us ++ by4 (w : Int).toNat).length + 2 = k + (us.length + 5) + 2 := by simp [by4]
 have hat : IntKind.i64.wrap (IntKind.i64.wrap ((k : Int) + ((us.length + 1 + 4 : Nat) : Int)) + 2) = ((k + (us.length + 5) + 2 : Nat) : Int) := by
  have i1 : IntKind.i64.wrap ((k : Int) + ((us.length + 1 + 4 : Nat) : Int)) = ((k + (us.length + 5) : Nat) : Int) := by rw [wrapN (by omega) (by omega)]; omega
  rw [i1, wrapN (by omega) (by omega)]; omega
 rw [hlen]
 have hle := zVz (en := en1) (T := T ++ F) (a := ((k + (us.length + 5) + 2 : Nat) : Int)) (t := t) (l := bs d)
 have hez := wrD_e (en := en1) (T := T ++ F) (a := ((k + (us.length + 5) + 2 : Nat) : Int)) (t := t) (l := bs d)
 have hld := (zCm z5).2.2.1
 have hld : (bs d).length <= 65535 := hld
 obtain ⟨R, hR⟩ : ∃ R, wrD en1 (T ++ F) ((k + (us.length + 5) + 2 : Nat) : Int) t (bs d) = R := ⟨_, rfl⟩
 simp only [hR]
 rw [hR] at hle hez
 obtain ⟨e2, o2, F2, en2⟩ := R
 have hl2 : o2.length <= 65535 := aW hle hld
 have hez : e2 ≠ 0 -> o2 = [] := hez
 clear hle
 cases F with
 | nil =>
  refine eI (⟨0, some 1, en, T, ⟨k, n, t, c⟩, 0, u :: us, [], en1⟩ : RpY AskY) (aI ⟨rfl, (show Tr.get _ 0 = some (AObj.cells [sq 1 T.length U, .int .i64 (en : Int)] _) from rfl), ⟨(show Tr.get _ 1 = some (AObj.cells (T.flatMap layT.g) _) from rfl), hT0⟩, hT, (aW hTl (by decide)), hsh, hA⟩ ?_)
  refine eI w (aI ⟨rfl, (show w < 4294967296 by omega)⟩ ?_)
  refine aI (by rw [h1s, hby]; simp only [bA, dT]; exact ⟨⟨⟨⟨⟨⟨rfl, rfl⟩, bL (by simp [by2, by4] <;> omega)⟩, rfl⟩, (by first | omega | (simp <;> omega))⟩, (by first | omega | (simp <;> omega))⟩, bL (by simp [by2, by4] <;> omega)⟩) ?_
  cases o2 with
  | nil =>
   cases F2 with
   | nil =>
    refine eI (⟨0, some 1, en1, T, ((k + (us.length + 5) + 2 : Nat) : Int), t, d, e2, [], [], en2⟩ : RwX) (aI ⟨by rw [<- hat] <;> rfl, (show Tr.get _ 0 = some (AObj.cells [sq 1 T.length U, .int .i64 (en1 : Int)] _) from rfl), ⟨(show Tr.get _ 1 = some (AObj.cells (T.flatMap layT.g) _) from rfl), hT0⟩, hT, (aW hTl (by decide)), hd, (by have := hR; rw [aF] at this; exact this)⟩ ?_)
    refine ifK (fun h2 => ?_) (fun h2 => ?_)
    ·have h2 : e2 ≠ 0 := by simpa using h2
     rw [if_pos h2]
     exact ⟨_, _, _, 0, 1, rfl, fun h => ab rfl h, .inl ⟨rfl, rfl⟩, by show some (AObj.cells _ _) = _; simp, by show some (AObj.cells _ _) = _; simp⟩
    have h2 : e2 = 0 := by simpa using h2
    subst h2
    rw [if_neg (aL rfl)]
    refine eI 0 (aI rfl ?_)
    refine eI ((by2 0).map byV) (aI (zAi (l := by2 0) h1s rfl) ?_)
    refine aI (by rw [h1s, hby]; simp only [bA, dT]; exact ⟨⟨⟨⟨⟨⟨rfl, rfl⟩, bL (by simp [by2, by4] <;> omega)⟩, (oneB _)⟩, (by first | omega | (simp <;> omega))⟩, (by first | omega | (simp <;> omega))⟩, bL (by simp [by2, by4] <;> omega)⟩) ?_
    have hv : sq 7 (us.length + 1 + 4 + 2) U = ovN 7 ((u :: us ++ by4 w) ++ by2 0 ++ []) := by rw [zCk 7 (by simp)]; simp [by2, by4]
    refine ⟨_, _, _, 7, 1, congrArg (fun v => Res.ret (.tuple #[v, .int .i64 0]) _ _ _) hv, fun _ => ⟨by decide, by decide, ?_⟩, .inl ⟨rfl, rfl⟩, by show some (AObj.cells _ _) = _; simp, by show some (AObj.cells _ _) = _; simp⟩
    refine (show some (AObj.cells _ _) = some (AObj.cells _ _) from congrArg (fun l => some (AObj.cells l _)) ?_)
    simp [h1s, by2, by4, aD, List.take_append]
   | cons q G =>
    refine eI (⟨0, some 1, en1, T, ((k + (us.length + 5) + 2 : Nat) : Int), t, d, e2, [], (q :: G), en2⟩ : RwX) (aI ⟨by rw [<- hat] <;> rfl, (show Tr.get _ 0 = some (AObj.cells [sq 1 T.length U, .int .i64 (en1 : Int)] _) from rfl), ⟨(show Tr.get _ 1 = some (AObj.cells (T.flatMap layT.g) _) from rfl), hT0⟩, hT, (aW hTl (by decide)), hd, (by have := hR; rw [aF] at this; exact this)⟩ ?_)
    refine ifK (fun h2 => ?_) (fun h2 => ?_)
    ·have h2 : e2 ≠ 0 := by simpa using h2
     rw [if_pos h2]
     exact ⟨_, _, _, 0, 6, rfl, fun h => ab rfl h, .inr ⟨by simp, by decide, by decide, fun h => ab rfl h⟩, by show some (AObj.cells _ _) = _; simp, by show some (AObj.cells _ _) = _; simp⟩
    have h2 : e2 = 0 := by simpa using h2
    subst h2
    rw [if_neg (aL rfl)]
    refine eI 0 (aI rfl ?_)
    refine eI ((by2 0).map byV) (aI (zAi (l := by2 0) h1s rfl) ?_)
    refine aI (by rw [h1s, hby]; simp only [bA, dT]; exact ⟨⟨⟨⟨⟨⟨rfl, rfl⟩, bL (by simp [by2, by4] <;> omega)⟩, (oneB _)⟩, (by first | omega | (simp <;> omega))⟩, (by first | omega | (simp <;> omega))⟩, bL (by simp [by2, by4] <;> omega)⟩) ?_
    have hv : sq 8 (us.length + 1 + 4 + 2) U = ovN 8 ((u :: us ++ by4 w) ++ by2 0 ++ []) := by rw [zCk 8 (by simp)]; simp [by2, by4]
    refine ⟨_, _, _, 8, 6, congrArg (fun v => Res.ret (.tuple #[v, .int .i64 0]) _ _ _) hv, fun _ => ⟨by decide, by decide, ?_⟩, .inr ⟨by simp, by decide, by decide, fun _ => by decide⟩, by show some (AObj.cells _ _) = _; simp, by show some (AObj.cells _ _) = _; simp⟩
    refine (show some (AObj.cells _ _) = some (AObj.cells _ _) from congrArg (fun l => some (AObj.cells l _)) ?_)
    simp [h1s, by2, by4, aD, List.take_append]
  | cons x xs =>
   have h0 : e2 = 0 := Decidable.byContradiction fun h => by cases hez h
   subst h0
   have hxl : xs.length + 1 <= 65535 := hl2
   have hone : oneL ((x :: xs).map byV) = true := oneB _
   obtain ⟨z, hz⟩ : ∃ z : Int, z = ((xs.length + 1 : Nat) : Int) := ⟨_, rfl⟩
   have hz2 : z.toNat = xs.length + 1 := by omega
   cases F2 with
   | nil =>
    refine eI (⟨0, some 1, en1, T, ((k + (us.length + 5) + 2 : Nat) : Int), t, d, 0, (x :: xs), [], en2⟩ : RwX) (aI ⟨by rw [<- hat] <;> rfl, (show Tr.get _ 0 = some (AObj.cells [sq 1 T.length U, .int .i64 (en1 : Int)] _) from rfl), ⟨(show Tr.get _ 1 = some (AObj.cells (T.flatMap layT.g) _) from rfl), hT0⟩, hT, (aW hTl (by decide)), hd, (by have := hR; rw [aF] at this; exact this)⟩ ?_)
    rw [if_neg (aL rfl)]
    refine eI z (aI (by rw [hz] <;> rfl) ?_)
    refine ifK (fun _ => ?_) (fun g => ab (oF g) (aL (by omega)))
    refine eI ((by2 z.toNat).map byV) (aI (zAi (l := by2 z.toNat) h1s rfl) ?_)
    refine aI (by rw [h1s, hby]; simp only [bA, dT]; exact ⟨⟨⟨⟨⟨⟨rfl, rfl⟩, bL (by simp [by2, by4] <;> omega)⟩, (oneB _)⟩, (by first | omega | (simp <;> omega))⟩, (by first | omega | (simp <;> omega))⟩, bL (by simp [by2, by4] <;> omega)⟩) ?_
    refine eI ((x :: xs).map byV) (aI (zAi (l := x :: xs) h1s rfl) ?_)
    refine aI (by rw [h1s, hby]; simp only [bA, dT]; exact ⟨⟨⟨⟨⟨⟨rfl, rfl⟩, bL (by simp [by2, by4] <;> omega)⟩, hone⟩, (by first | omega | (simp <;> omega))⟩, (by first | omega | (simp <;> omega))⟩, bL (by simp [by2, by4] <;> omega)⟩) ?_
    have hv : sq 9 (us.length + 1 + 4 + 2 + (xs.length + 1)) U = ovN 9 ((u :: us ++ by4 w) ++ by2 (xs.length + 1) ++ (x :: xs)) := by rw [zCk 9 (by simp)]; simp [by2, by4]; try omega
    refine ⟨_, _, _, 9, 1, congrArg (fun v => Res.ret (.tuple #[v, .int .i64 0]) _ _ _) hv, fun _ => ⟨by decide, by decide, ?_⟩, .inl ⟨rfl, rfl⟩, by show some (AObj.cells _ _) = _; simp, by show some (AObj.cells _ _) = _; simp⟩
    refine (show some (AObj.cells _ _) = some (AObj.cells _ _) from congrArg (fun l => some (AObj.cells l _)) ?_)
    simp [h1s, by2, by4, aD, List.take_append, hz2]
   | cons q G =>
    refine eI (⟨0, some 1, en1, T, ((k + (us.length + 5) + 2 : Nat) : Int), t, d, 0, (x :: xs), (q :: G), en2⟩ : RwX) (aI ⟨by rw [<- hat] <;> rfl, (show Tr.get _ 0 = some (AObj.cells [sq 1 T.length U, .int .i64 (en1 : Int)] _) from rfl), ⟨(show Tr.get _ 1 = some (AObj.cells (T.flatMap layT.g) _) from rfl), hT0⟩, hT, (aW hTl (by decide)), hd, (by have := hR; rw [aF] at this; exact this)⟩ ?_)
    rw [if_neg (aL rfl)]
    refine eI z (aI (by rw [hz] <;> rfl) ?_)
    refine ifK (fun _ => ?_) (fun g => ab (oF g) (aL (by omega)))
    refine aI (by rw [h1s, hby]; simp only [bA, dT]; exact ⟨⟨⟨⟨⟨⟨rfl, rfl⟩, bL (by simp [by2, by4] <;> omega)⟩, rfl⟩, (by first | omega | (simp <;> omega))⟩, (by first | omega | (simp <;> omega))⟩, bL (by simp [by2, by4] <;> omega)⟩) ?_
    refine eI ((x :: xs).map byV) (aI (zAi (l := x :: xs) h1s rfl) ?_)
    refine aI (by rw [h1s, hby]; simp only [bA, dT]; exact ⟨⟨⟨⟨⟨⟨rfl, rfl⟩, bL (by simp [by2, by4] <;> omega)⟩, hone⟩, (by first | omega | (simp <;> omega))⟩, (by first | omega | (simp <;> omega))⟩, bL (by simp [by2, by4] <;> omega)⟩) ?_
    have hv : sq 10 (us.length + 1 + 4 + 2 + (xs.length + 1)) U = ovN 10 ((u :: us ++ by4 w) ++ by2 (xs.length + 1) ++ (x :: xs)) := by rw [zCk 10 (by simp)]; simp [by2, by4]; try omega
    refine ⟨_, _, _, 10, 7, congrArg (fun v => Res.ret (.tuple #[v, .int .i64 0]) _ _ _) hv, fun _ => ⟨by decide, by decide, ?_⟩, .inr ⟨by simp, by decide, by decide, fun _ => by decide⟩, by show some (AObj.cells _ _) = _; simp, by show some (AObj.cells _ _) = _; simp⟩
    refine (show some (AObj.cells _ _) = some (AObj.cells _ _) from congrArg (fun l => some (AObj.cells l _)) ?_)
    simp [h1s, by2, by4, aD, List.take_append, hz2]
 | cons p F =>
  refine eI (⟨0, some 1, en, T, ⟨k, n, t, c⟩, 0, u :: us, (p :: F), en1⟩ : RpY AskY) (aI ⟨rfl, (show Tr.get _ 0 = some (AObj.cells [sq 1 T.length U, .int .i64 (en : Int)] _) from rfl), ⟨(show Tr.get _ 1 = some (AObj.cells (T.flatMap layT.g) _) from rfl), hT0⟩, hT, (aW hTl (by decide)), hsh, hA⟩ ?_)
  refine eI w (aI ⟨rfl, (show w < 4294967296 by omega)⟩ ?_)
  refine aI (by rw [h1s, hby]; simp only [bA, dT]; exact ⟨⟨⟨⟨⟨⟨rfl, rfl⟩, bL (by simp [by2, by4] <;> omega)⟩, rfl⟩, (by first | omega | (simp <;> omega))⟩, (by first | omega | (simp <;> omega))⟩, bL (by simp [by2, by4] <;> omega)⟩) ?_
  cases o2 with
  | nil =>
   cases F2 with
   | nil =>
    refine eI (⟨0, some 4, en1, (T ++ p :: F), ((k + (us.length + 5) + 2 : Nat) : Int), t, d, e2, [], [], en2⟩ : RwX) (aI ⟨by rw [<- hat] <;> rfl, (show Tr.get _ 0 = some (AObj.cells [sq 4 (T ++ p :: F).length U, .int .i64 (en1 : Int)] _) from rfl), ⟨(show Tr.get _ 4 = some (AObj.cells ((T ++ p :: F).flatMap layT.g) _) from rfl), by simp⟩, hgd, (show List.length (T ++ p :: F) <= 900000000 by simp at hFl ⊢; omega), hd, hR⟩ ?_)
    refine ifK (fun h2 => ?_) (fun h2 => ?_)
    ·have h2 : e2 ≠ 0 := by simpa using h2
     rw [if_pos h2]
     exact ⟨_, _, _, 0, 4, rfl, fun h => ab rfl h, .inr ⟨by simp, by decide, by decide, fun h => ab rfl h⟩, by show some (AObj.cells _ _) = _; simp, by show some (AObj.cells _ _) = _; simp⟩
    have h2 : e2 = 0 := by simpa using h2
    subst h2
    rw [if_neg (aL rfl)]
    refine eI 0 (aI rfl ?_)
    refine eI ((by2 0).map byV) (aI (zAi (l := by2 0) h1s rfl) ?_)
    refine aI (by rw [h1s, hby]; simp only [bA, dT]; exact ⟨⟨⟨⟨⟨⟨rfl, rfl⟩, bL (by simp [by2, by4] <;> omega)⟩, (oneB _)⟩, (by first | omega | (simp <;> omega))⟩, (by first | omega | (simp <;> omega))⟩, bL (by simp [by2, by4] <;> omega)⟩) ?_
    have hv : sq 8 (us.length + 1 + 4 + 2) U = ovN 8 ((u :: us ++ by4 w) ++ by2 0 ++ []) := by rw [zCk 8 (by simp)]; simp [by2, by4]
    refine ⟨_, _, _, 8, 4, congrArg (fun v => Res.ret (.tuple #[v, .int .i64 0]) _ _ _) hv, fun _ => ⟨by decide, by decide, ?_⟩, .inr ⟨by simp, by decide, by decide, fun _ => by decide⟩, by show some (AObj.cells _ _) = _; simp, by show some (AObj.cells _ _) = _; simp⟩
    refine (show some (AObj.cells _ _) = some (AObj.cells _ _) from congrArg (fun l => some (AObj.cells l _)) ?_)
    simp [h1s, by2, by4, aD, List.take_append]
   | cons q G =>
    refine eI (⟨0, some 4, en1, (T ++ p :: F), ((k + (us.length + 5) + 2 : Nat) : Int), t, d, e2, [], (q :: G), en2⟩ : RwX) (aI ⟨by rw [<- hat] <;> rfl, (show Tr.get _ 0 = some (AObj.cells [sq 4 (T ++ p :: F).length U, .int .i64 (en1 : Int)] _) from rfl), ⟨(show Tr.get _ 4 = some (AObj.cells ((T ++ p :: F).flatMap layT.g) _) from rfl), by simp⟩, hgd, (show List.length (T ++ p :: F) <= 900000000 by simp at hFl ⊢; omega), hd, hR⟩ ?_)
    refine ifK (fun h2 => ?_) (fun h2 => ?_)
    ·have h2 : e2 ≠ 0 := by simpa using h2
     rw [if_pos h2]
     exact ⟨_, _, _, 0, 7, rfl, fun h => ab rfl h, .inr ⟨by simp, by decide, by decide, fun h => ab rfl h⟩, by show some (AObj.cells _ _) = _; simp, by show some (AObj.cells _ _) = _; simp⟩
    have h2 : e2 = 0 := by simpa using h2
    subst h2
    rw [if_neg (aL rfl)]
    refine eI 0 (aI rfl ?_)
    refine aI (by rw [h1s, hby]; simp only [bA, dT]; exact ⟨⟨⟨⟨⟨⟨rfl, rfl⟩, bL (by simp [by2, by4] <;> omega)⟩, rfl⟩, (by first | omega | (simp <;> omega))⟩, (by first | omega | (simp <;> omega))⟩, bL (by simp [by2, by4] <;> omega)⟩) ?_
    have hv : sq 9 (us.length + 1 + 4 + 2) U = ovN 9 ((u :: us ++ by4 w) ++ by2 0 ++ []) := by rw [zCk 9 (by simp)]; simp [by2, by4]
    refine ⟨_, _, _, 9, 7, congrArg (fun v => Res.ret (.tuple #[v, .int .i64 0]) _ _ _) hv, fun _ => ⟨by decide, by decide, ?_⟩, .inr ⟨by simp, by decide, by decide, fun _ => by decide⟩, by show some (AObj.cells _ _) = _; simp, by show some (AObj.cells _ _) = _; simp⟩
    refine (show some (AObj.cells _ _) = some (AObj.cells _ _) from congrArg (fun l => some (AObj.cells l _)) ?_)
    simp [h1s, by2, by4, aD, List.take_append]
  | cons x xs =>
   have h0 : e2 = 0 := Decidable.byContradiction fun h => by cases hez h
   subst h0
   have hxl : xs.length + 1 <= 65535 := hl2
   have hone : oneL ((x :: xs).map byV) = true := oneB _
   obtain ⟨z, hz⟩ : ∃ z : Int, z = ((xs.length + 1 : Nat) : Int) := ⟨_, rfl⟩
   have hz2 : z.toNat = xs.length + 1 := by omega
   cases F2 with
   | nil =>
    refine eI (⟨0, some 4, en1, (T ++ p :: F), ((k + (us.length + 5) + 2 : Nat) : Int), t, d, 0, (x :: xs), [], en2⟩ : RwX) (aI ⟨by rw [<- hat] <;> rfl, (show Tr.get _ 0 = some (AObj.cells [sq 4 (T ++ p :: F).length U, .int .i64 (en1 : Int)] _) from rfl), ⟨(show Tr.get _ 4 = some (AObj.cells ((T ++ p :: F).flatMap layT.g) _) from rfl), by simp⟩, hgd, (show List.length (T ++ p :: F) <= 900000000 by simp at hFl ⊢; omega), hd, hR⟩ ?_)
    rw [if_neg (aL rfl)]
    refine eI z (aI (by rw [hz] <;> rfl) ?_)
    refine ifK (fun _ => ?_) (fun g => ab (oF g) (aL (by omega)))
    refine aI (by rw [h1s, hby]; simp only [bA, dT]; exact ⟨⟨⟨⟨⟨⟨rfl, rfl⟩, bL (by simp [by2, by4] <;> omega)⟩, rfl⟩, (by first | omega | (simp <;> omega))⟩, (by first | omega | (simp <;> omega))⟩, bL (by simp [by2, by4] <;> omega)⟩) ?_
    refine eI ((x :: xs).map byV) (aI (zAi (l := x :: xs) h1s rfl) ?_)
    refine aI (by rw [h1s, hby]; simp only [bA, dT]; exact ⟨⟨⟨⟨⟨⟨rfl, rfl⟩, bL (by simp [by2, by4] <;> omega)⟩, hone⟩, (by first | omega | (simp <;> omega))⟩, (by first | omega | (simp <;> omega))⟩, bL (by simp [by2, by4] <;> omega)⟩) ?_
    have hv : sq 10 (us.length + 1 + 4 + 2 + (xs.length + 1)) U = ovN 10 ((u :: us ++ by4 w) ++ by2 (xs.length + 1) ++ (x :: xs)) := by rw [zCk 10 (by simp)]; simp [by2, by4]; try omega
    refine ⟨_, _, _, 10, 4, congrArg (fun v => Res.ret (.tuple #[v, .int .i64 0]) _ _ _) hv, fun _ => ⟨by decide, by decide, ?_⟩, .inr ⟨by simp, by decide, by decide, fun _ => by decide⟩, by show some (AObj.cells _ _) = _; simp, by show some (AObj.cells _ _) = _; simp⟩
    refine (show some (AObj.cells _ _) = some (AObj.cells _ _) from congrArg (fun l => some (AObj.cells l _)) ?_)
    simp [h1s, by2, by4, aD, List.take_append, hz2]
   | cons q G =>
    refine eI (⟨0, some 4, en1, (T ++ p :: F), ((k + (us.length + 5) + 2 : Nat) : Int), t, d, 0, (x :: xs), (q :: G), en2⟩ : RwX) (aI ⟨by rw [<- hat] <;> rfl, (show Tr.get _ 0 = some (AObj.cells [sq 4 (T ++ p :: F).length U, .int .i64 (en1 : Int)] _) from rfl), ⟨(show Tr.get _ 4 = some (AObj.cells ((T ++ p :: F).flatMap layT.g) _) from rfl), by simp⟩, hgd, (show List.length (T ++ p :: F) <= 900000000 by simp at hFl ⊢; omega), hd, hR⟩ ?_)
    rw [if_neg (aL rfl)]
    refine eI z (aI (by rw [hz] <;> rfl) ?_)
    refine ifK (fun _ => ?_) (fun g => ab (oF g) (aL (by omega)))
    refine aI (by rw [h1s, hby]; simp only [bA, dT]; exact ⟨⟨⟨⟨⟨⟨rfl, rfl⟩, bL (by simp [by2, by4] <;> omega)⟩, rfl⟩, (by first | omega | (simp <;> omega))⟩, (by first | omega | (simp <;> omega))⟩, bL (by simp [by2, by4] <;> omega)⟩) ?_
    refine eI ((x :: xs).map byV) (aI (zAi (l := x :: xs) h1s rfl) ?_)
    refine aI (by rw [h1s, hby]; simp only [bA, dT]; exact ⟨⟨⟨⟨⟨⟨rfl, rfl⟩, bL (by simp [by2, by4] <;> omega)⟩, hone⟩, (by first | omega | (simp <;> omega))⟩, (by first | omega | (simp <;> omega))⟩, bL (by simp [by2, by4] <;> omega)⟩) ?_
    have hv : sq 11 (us.length + 1 + 4 + 2 + (xs.length + 1)) U = ovN 11 ((u :: us ++ by4 w) ++ by2 (xs.length + 1) ++ (x :: xs)) := by rw [zCk 11 (by simp)]; simp [by2, by4]; try omega
    refine ⟨_, _, _, 11, 8, congrArg (fun v => Res.ret (.tuple #[v, .int .i64 0]) _ _ _) hv, fun _ => ⟨by decide, by decide, ?_⟩, .inr ⟨by simp, by decide, by decide, fun _ => by decide⟩, by show some (AObj.cells _ _) = _; simp, by show some (AObj.cells _ _) = _; simp⟩
    refine (show some (AObj.cells _ _) = some (AObj.cells _ _) from congrArg (fun l => some (AObj.cells l _)) ?_)
    simp [h1s, by2, by4, aD, List.take_append, hz2]
end Go.Proofs.Ytcggcoijhdagnaa
