/- DERIVED. M with symbols, fifth part: functions. -/
import Derived.Test.YtgfjmkjhjfmbeaaGreatS4
namespace Go.Proofs.YtgfjmkjhjfmbeaaGreat
open Go.RowKit

theorem hr_anew {P : Program} {E : Env} {k0 : Nat} {L : List Nat} {w : World} {H0 H : Tr AObj} (hn : L.Nodup) (hL : ∀ x ∈ L, k0 ≤ x) (hJ : k0 + L.length ≤ JJ) (hB : Blocks (sgO k0 L) (un k0 L) (k0 + L.length) H0 H) (h : HR P E H0.get w) : HR P (E.anew k0 L) H.get w := by
  have hu := un_sg hL hJ
  have hm := anew_map (E := E) hu
  refine ⟨fun k hd => h.lt _ hd.1, fun k hd => ?_, fun k o ho => ?_, fun i j hi hj e => ?_⟩
  · cases hg' : H.get k with
    | none => rfl
    | some o =>
      obtain ⟨h1, o1, h2, _⟩ := hB k o hg'
      exact absurd ⟨h.live (by rw [h2]; simp), sg_un_new hL hn h1⟩ hd
  · obtain ⟨h1, o1, h2, h3⟩ := hB k o ho
    exact (h.obj _ _ h2).ren hm (by unfold sgO; rw [sg_un_new hL hn h1]) (h.live (by rw [h2]; simp)) h3
  · have key : ∀ i, H.get i ≠ none → i < k0 + L.length ∧ H0.get (un k0 L i) ≠ none := fun i hi => by
      cases hg' : H.get i with
      | none => exact absurd hg' hi
      | some o => obtain ⟨h1, o1, h2, _⟩ := hB i o hg'; exact ⟨h1, by rw [h2]; simp⟩
    have e2 := h.inj _ _ (key i hi).2 (key j hj).2 e
    rw [← sg_un_new hL hn (key i hi).1, e2, sg_un_new hL hn (key j hj).1]

def FEnd (P : Program) (n0 : Nat) (E : Env) (w : World) (r : Res) : Ending → World → Prop := fun e w' =>
  match r with
  | .ret v H _ wr => ∃ E' v', e = .returned v' ∧ VR E' v v' ∧ HR P E' H.get w' ∧ Kept n0 wr E E' w w'
  | .pan ch H _ wr => ∃ E' ch', e = .panicked ch' ∧ CR E' ch ch' ∧ HR P E' H.get w' ∧ Kept n0 wr E E' w w'
  | _ => False

/-- What a function does, of these arguments, of which the blocks bear the names from 0 to n0. -/
def FnS (P : Program) (g0 : Nat) (f : FuncId) (args : List Value) (H : Tr AObj) (n0 : Nat) (r : Res) : Prop :=
  ∀ (E : Env) (w : World) (args' : Array Value), (∀ g, g < g0 → E.dom g ∧ E.ρ g = g) → VL E args args'.toList → HR P E H.get w → Low n0 H → (∀ k, E.dom k → k < n0 ∨ JJ ≤ k) → CallsIn Fence.wide 0 P f args' w (FEnd P n0 E w r)

section
variable {P : Program} {g0 : Nat}

theorem kept_of_stp {k0 n n' : Nat} {E E' : Env} {W : List Nat} {w w' : World} (hx : Ext E E') (ht : Took E E' n n') (hk : k0 ≤ n) (hW : ∀ k ∈ W, k < JJ) (h : Stp E E' W w w') : Kept k0 W E E' w w' :=
  ⟨fun i hi => by rw [ht i]; exact ⟨fun h => h.resolve_right (by omega), .inl⟩, fun i _ hd => hx.ρ i hd, fun i _ hd => hx.tot i hd, fun i _ hd => hx.sz i hd, h.os, h.tape, h.output, h.size, fun b hb hx' => h.block b hb (fun id hid hd => hx' id ⟨hd, hW id hid, fun _ => hid⟩), fun i hi hiJ hd => by
    by_cases h1 : E.dom i
    · exact .inr ⟨i, ⟨h1, hiJ, fun h => by omega⟩, (hx.ρ i h1).symm⟩
    · exact (h.fresh i h1 hd).imp (fun h => h) (fun ⟨o, ho, hd', e⟩ => ⟨o, ⟨hd', hW o ho, fun _ => ho⟩, e.symm⟩)⟩

/-- How a function ends. -/
def fnK (tb : Tb P g0) (fn : Func) (R : Res → Prop) (x : Ex) (s : Fs) : Prop :=
  match modeOf x with
  | none => False
  | some u => match evOut P tb.go s.df u s.H s.n s.wr with
    | .ok none H n wr => bif n.ble JJ && wr.all (fun k => Nat.blt k JJ) then (match evResults P { s with H } fn.results.toList with | some vs => R (.ret (tupleOf vs) H n wr) | none => False) else False
    | .ok (some ch) H n wr => bif n.ble JJ && wr.all (fun k => Nat.blt k JJ) then R (.pan ch H n wr) else False
    | .bad _ _ => False

theorem fn_of_cw (hm : P.follows .mixedOrders = true) (tb : Tb P g0) {f : FuncId} {fn : Func} {c : Code} (hf : P.funcs[f]? = some fn) (hb : fn.body = some c) {args : List Value} {H0 : Tr AObj} {n0 : Nat} {R : Res → Prop}
    (h : CW P g0 n0 (args.length + (fn.ntmps - args.length)) none c ⟨tmpsOf args 0 .e, H0, n0, [], []⟩ (fnK tb fn R)) : ∃ r, FnS P g0 f args H0 n0 r ∧ R r := by
  obtain ⟨x, s, hs, hk⟩ := h (fun l e => by cases e) (Nat.le_refl _)
  unfold fnK at hk
  cases hmode : modeOf x with
  | none => rw [hmode] at hk; exact hk.elim
  | some u =>
    rw [hmode] at hk
    simp only [] at hk
    cases ho : evOut P tb.go s.df u s.H s.n s.wr with
    | bad m tr => rw [ho] at hk; exact hk.elim
    | ok U H' n' wr' =>
      rw [ho] at hk
      obtain ⟨⟨g2, g2'⟩, _⟩ := evOut_ok (tb.go_ok hm) (fn := fn) (tmps := #[]) (R := fun _ _ => True) _ _ _ _ _ _ _ _ _ ho
      obtain ⟨s1, s2, s3⟩ := hs
      have walk : ∀ (r : Res), (Nat.ble n' JJ && wr'.all (fun k => Nat.blt k JJ)) = true →
          (∀ (E E' : Env) (w w' : World) (U' : FrameMode) (a : Act), UR E' U U' → TR E' s.T (args.length + (fn.ntmps - args.length)) a.tmps → HR P E' H'.get w' → Kept n0 wr' E E' w w' → LeavesIn Fence.wide 0 P fn a.tmps (FEnd P n0 E w r) [] U' w') → FnS P g0 f args H0 n0 r := by
        intro r hJ hgo E w args' hgl hva hH hlow htop
        simp only [Bool.and_eq_true] at hJ
        have hnJ : n' ≤ JJ := Nat.le_of_ble_eq_true hJ.1
        have hwJ : ∀ k ∈ wr', k < JJ := fun k hk => Nat.le_of_ble_eq_true (List.all_eq_true.1 hJ.2 k hk)
        refine callsIn_of_wp_marks hf hb trivial ?_
        have hfr : FRn P g0 E (args.length + (fn.ntmps - args.length)) none ⟨tmpsOf args 0 .e, H0, n0, [], []⟩ { tmps := args' ++ Array.replicate (fn.ntmps - args'.size) undef, defers := [] } w :=
          ⟨tr_start hva _, hH, hlow, .nil, hgl, (fun l e => by cases e), htop⟩
        refine wpIn_mono (s3 E _ w hfr) ?_
        rintro e a' w' ⟨E', hf', hex, hke⟩
        have hfree : Free E' s.n n' := fun k h1 h2 hd => by rcases hf'.top k hd with h3 | h3 <;> omega
        have out : ∀ u', UR E' u u' → LeavesInM Fence.wide 0 P fn a'.tmps (FEnd P n0 E w r) a'.defers u' w' := fun u' hu =>
          (evOut_ok (tb.go_ok hm) (fn := fn) (tmps := a'.tmps) (R := FEnd P n0 E w r) _ _ _ _ _ _ _ _ _ ho).2 a'.defers u' E' w' E' w' hf'.df hu hf'.hr hf'.lw ((Stp.refl E' w').sub (fun _ h => by cases h)) hf'.gl hfree
            (fun E2 U' w'' r1 r2 r3 r4 r5 => hgo E E2 w w'' U' a' r3 (hf'.tr.ext r1) r4 (hke.trans (kept_of_stp r1 r2 s1 hwJ r5) (fun k hk _ => g2' k hk)))
        rcases modeOf_exR hmode hex with ⟨rfl | rfl, rfl⟩ | ⟨ch, ch', rfl, rfl, rfl, hch⟩
        · exact out .returning .none
        · exact out .returning .none
        · exact out (.panicking ch') (.some _ _ hch)
      cases U with
      | none =>
        obtain ⟨hJ, hk⟩ := bif_false hk
        cases hv : evResults P { s with H := H' } fn.results.toList with
        | none => rw [hv] at hk; exact hk.elim
        | some vs =>
          rw [hv] at hk
          refine ⟨_, walk _ hJ (fun E E' w w' U' a hu hT hH hke => ?_), hk⟩
          cases hu
          obtain ⟨vs', h1, h2⟩ := evResults_ok (s := { s with H := H' }) hT hH _ _ hv
          exact ⟨_, results_run h2, E', _, rfl, tupleOf_rel h1, hH, hke⟩
      | some ch =>
        obtain ⟨hJ, hk⟩ := bif_false hk
        refine ⟨_, walk _ hJ (fun E E' w w' U' a hu hT hH hke => ?_), hk⟩
        cases hu
        rename_i ch' hch
        exact ⟨E', ch', rfl, hch, hH, hke⟩

/-- From the function's names to the caller's. -/
def tau (A B : List Nat) (n : Nat) (k : Nat) : Option Nat := bif Nat.blt k A.length then A[k]? else posN k B n

inductive RC (σ : Nat → Option Nat) : List (Value × Bool) → List (Value × Bool) → Prop
  | nil : RC σ [] []
  | cons (v v' : Value) (b : Bool) (l l' : List (Value × Bool)) (h : RV σ v v') (t : RC σ l l') : RC σ ((v, b) :: l) ((v', b) :: l')
theorem RC.cr {σ : Nat → Option Nat} {E E2 : Env} (m : EnvMap σ E E2) {l : List (Value × Bool)} {x : List PanicEntry} (h : CR E l x) {l1 : List (Value × Bool)} (r : RC σ l l1) : CR E2 l1 x := by
  induction h generalizing l1 with
  | nil => cases r; exact .nil
  | cons v b p l l' hv hb hg t ih => cases r with | cons _ v2 _ _ l2 rv rt => exact .cons _ _ _ _ _ (RV.vr m hv rv) hb hg (ih rt)

/-- The results, with their names turned. -/
inductive ResR (σ : Nat → Option Nat) : Res → Res → Prop
  | ret (v v' : Value) (H H' : Tr AObj) (n n' : Nat) (wr wr' : List Nat) (h : RV σ v v') : ResR σ (.ret v H n wr) (.ret v' H' n' wr')
  | pan (ch ch' : List (Value × Bool)) (H H' : Tr AObj) (n n' : Nat) (wr wr' : List Nat) (h : RC σ ch ch') : ResR σ (.pan ch H n wr) (.pan ch' H' n' wr')
def resH : Res → Tr AObj
  | .ret _ H _ _ => H
  | .pan _ H _ _ => H
  | _ => .e
def resWr : Res → List Nat
  | .ret _ _ _ wr => wr
  | .pan _ _ _ wr => wr
  | _ => []

/-- A FUNCTION'S CONTRACT, SEEN BY WHO CALLS IT. -/
theorem callOK_of_fns {f : FuncId} {args0 args : List Value} {H0 H : Tr AObj} {n : Nat} {r0 r : Res} (A B : List Nat) (hg : g0 = 0) (hF : FnS P g0 f args0 H0 A.length r0)
    (hA : A.Nodup) (hAJ : A.length ≤ JJ) (hargs : RL (sgO 0 A) args args0) (hH : Blocks (sgO 0 A) (un 0 A) A.length H H0)
    (hB : B.Nodup) (hBn : ∀ x ∈ B, A.length ≤ x ∧ x < JJ) (hBl : ∀ x ∈ B, (resH r0).get x ≠ none)
    (hr : ResR (tau A B n) r0 r) (hend : endN r n = n + B.length) (hgrw : endGrw n H r)
    (hwl : ∀ k ∈ resWr r0, k < A.length → ∀ j, A[k]? = some j → H.get j ≠ none ∧ j ∈ resWr r)
    (hH' : ∀ j o, (resH r).get j = some o → (H.get j = some o ∧ ∀ k, A[k]? = some j → k ∉ resWr r0) ∨ ∃ k o1, tau A B n k = some j ∧ (resH r0).get k = some o1 ∧ RO (tau A B n) o1 o ∧ (k < A.length → k ∈ resWr r0)) :
    CallOK P g0 f args H n r := by
  refine ⟨hgrw, fun E w args' hgl hva hE hlow hfree => ?_⟩
  rw [hend] at hfree
  have hL : ∀ x ∈ A, 0 ≤ x := fun _ _ => Nat.zero_le _
  have hu := un_sg hL (by rw [Nat.zero_add]; exact hAJ)
  have h0 : HR P (E.anew 0 A) H0.get w := hr_anew hA hL (by rw [Nat.zero_add]; exact hAJ) (by rw [Nat.zero_add]; exact hH) hE
  have htop : ∀ k, (E.anew 0 A).dom k → k < A.length ∨ JJ ≤ k := fun k hd => by have := (new_name hd.2 (Nat.zero_le _)).1; rwa [Nat.zero_add] at this
  refine (hF (E.anew 0 A) w args' (fun g h => by omega) (RL.vl (anew_map hu) hva hargs) h0 (fun k hk => ?_) htop).mono fun e w' he => ?_
  · cases hgk : H0.get k with
    | none => rfl
    | some o => have := (hH k o hgk).1; omega
  -- what the end says
  obtain ⟨E', hE', hke, hfin⟩ : ∃ E', HR P E' (resH r0).get w' ∧ Kept A.length (resWr r0) (E.anew 0 A) E' w w' ∧ ∀ E1, EnvMap (tau A B n) E' E1 → Ext E E1 → Took E E1 n (n + B.length) → HR P E1 (resH r).get w' → Stp E E1 (resWr r) w w' → CallEnd P E n w r e w' := by
    cases hr with
    | ret v v' Ha Hb na nb wa wb hv =>
      obtain ⟨E', x, rfl, h1, h2, h3⟩ := he
      refine ⟨E', h2, h3, fun E1 m q1 q2 q3 q4 => ⟨E1, x, rfl, RV.vr m h1 hv, q1, ?_, q3, q4⟩⟩
      have : nb = n + B.length := hend
      rw [this]; exact q2
    | pan v v' Ha Hb na nb wa wb hv =>
      obtain ⟨E', x, rfl, h1, h2, h3⟩ := he
      refine ⟨E', h2, h3, fun E1 m q1 q2 q3 q4 => ⟨E1, x, rfl, RC.cr m h1 hv, q1, ?_, q3, q4⟩⟩
      have : nb = n + B.length := hend
      rw [this]; exact q2
  have unA : ∀ k j, A[k]? = some j → un 0 A k = j := fun k j h => by
    unfold un; rw [blt_false (Nat.zero_le _)]; simp [h]
  -- the environment behind
  obtain ⟨E1, hE1⟩ : ∃ E1 : Env, E1 = ⟨fun j => E.dom j ∨ (n ≤ j ∧ j < n + B.length), fun j => if n ≤ j ∧ j < n + B.length then E'.ρ (B.getD (j - n) 0) else E.ρ j, fun j => if n ≤ j ∧ j < n + B.length then E'.tot (B.getD (j - n) 0) else E.tot j, fun j => if n ≤ j ∧ j < n + B.length then E'.sz (B.getD (j - n) 0) else E.sz j⟩ := ⟨_, rfl⟩
  have hnot : ∀ j, E.dom j → ¬ (n ≤ j ∧ j < n + B.length) := fun j hd h => hfree j h.1 h.2 hd
  have hx : Ext E E1 := by
    subst hE1
    exact ⟨fun j h => .inl h, fun j h => if_neg (hnot j h), fun j h => if_neg (hnot j h), fun j h => if_neg (hnot j h)⟩
  have ht : Took E E1 n (n + B.length) := by subst hE1; exact fun j => Iff.rfl
  have low : ∀ k, k < A.length → ∃ j, A[k]? = some j ∧ (E.anew 0 A).ρ k = E.ρ j ∧ ((E.anew 0 A).dom k → E.dom j) ∧ (E.anew 0 A).tot k = E.tot j ∧ (E.anew 0 A).sz k = E.sz j := fun k hk => by
    have e := List.getElem?_eq_getElem hk
    refine ⟨A[k], e, ?_, fun hd => ?_, ?_, ?_⟩
    · show E.ρ (un 0 A k) = _; rw [unA k _ e]
    · have := hd.1; rwa [unA k _ e] at this
    · show E.tot (un 0 A k) = _; rw [unA k _ e]
    · show E.sz (un 0 A k) = _; rw [unA k _ e]
  have m : EnvMap (tau A B n) E' E1 := fun b b' e hd => by
    unfold tau at e
    by_cases hb : b < A.length
    · rw [show Nat.blt b A.length = true from Nat.ble_eq_true_of_le hb] at e
      simp only [cond_true] at e
      obtain ⟨j, e1, e2, e3, e4, e5⟩ := low b hb
      rw [e] at e1
      simp only [Option.some.injEq] at e1
      subst e1
      have hd0 := (hke.dom b hb).1 hd
      have hdj := e3 hd0
      exact ⟨hx.n _ hdj, by rw [hx.ρ _ hdj, hke.ρ b hb hd0, e2], by rw [hx.tot _ hdj, hke.tot b hb hd0, e4], by rw [hx.sz _ hdj, hke.sz b hb hd0, e5]⟩
    · rw [blt_false (by omega)] at e
      simp only [cond_false] at e
      obtain ⟨p1, p2, p3⟩ := posN_some e
      have hg : B.getD (b' - n) 0 = b := by rw [List.getD_eq_getElem?_getD, p3]; rfl
      subst hE1
      refine ⟨.inr ⟨p1, p2⟩, ?_, ?_, ?_⟩ <;> simp only [if_pos (And.intro p1 p2), hg]
  have tchA : ∀ i, Tch A.length (resWr r0) (E.anew 0 A) i → i < A.length ∧ i ∈ resWr r0 ∧ ∃ j, A[i]? = some j ∧ (E.anew 0 A).ρ i = E.ρ j ∧ E.dom j ∧ H.get j ≠ none ∧ j ∈ resWr r := fun i hi => by
    have hlt : i < A.length := by rcases htop i hi.1 with h | h; exact h; have := hi.2.1; omega
    obtain ⟨j, e1, e2, e3, _⟩ := low i hlt
    obtain ⟨p1, p2⟩ := hwl i (hi.2.2 hlt) hlt j e1
    exact ⟨hlt, hi.2.2 hlt, j, e1, e2, e3 hi.1, p1, p2⟩
  have blk : ∀ b, b < w.heap.size → (∀ i j, i ∈ resWr r0 → A[i]? = some j → H.get j ≠ none → E.ρ j ≠ b) → w'.heap[b]? = w.heap[b]? := fun b hb hno => hke.block b hb fun i hi e => by
    obtain ⟨_, h2, j, h3, h4, _, h6, _⟩ := tchA i hi
    exact hno i j h2 h3 h6 (h4.symm.trans e)
  have own1 : ∀ k j, tau A B n k = some j → (resH r0).get k ≠ none → E1.ρ j = E'.ρ k := fun k j e hl => (m k j e (hE'.live hl)).2.1
  refine hfin E1 m hx ht ⟨fun id hd => ?_, fun id hd => ?_, fun j o ho => ?_, fun i j hi hj e => ?_⟩ ⟨hx, hke.os, hke.tp, hke.output, hke.size, fun b hb hno => ?_, fun id h1 h2 => ?_⟩
  · rcases (ht id).1 hd with h1 | h1
    · rw [hx.ρ id h1]; exact Nat.lt_of_lt_of_le (hE.lt id h1) hke.size
    · subst hE1
      simp only [if_pos h1]
      have hlen : id - n < B.length := by omega
      have hmem : B.getD (id - n) 0 ∈ B := by rw [List.getD_eq_getElem?_getD, List.getElem?_eq_getElem hlen]; exact List.getElem_mem hlen
      exact hE'.lt _ (hE'.live (hBl _ hmem))
  · cases hgj : (resH r).get id with
    | none => rfl
    | some o =>
      rcases hH' id o hgj with ⟨h1, _⟩ | ⟨k, o1, h1, h2, _, _⟩
      · exact absurd (hx.n _ (hE.live (by rw [h1]; simp))) hd
      · exact absurd (m k id h1 (hE'.live (by rw [h2]; simp))).1 hd
  · rcases hH' j o ho with ⟨h1, h2⟩ | ⟨k, o1, h1, h2, h3, _⟩
    · have hd := hE.live (id := j) (by rw [h1]; simp)
      refine (hE.obj j o h1).mono hx hd (blk _ (hE.lt j hd) fun i j' hi hj' hl e => ?_)
      have := hE.inj j' j hl (by rw [h1]; simp) e
      subst this
      exact h2 i hj' hi
    · exact (hE'.obj k o1 h2).ren m h1 (hE'.live (by rw [h2]; simp)) h3
  · have key : ∀ i, (resH r).get i ≠ none → (∃ o, H.get i = some o ∧ E1.ρ i = E.ρ i ∧ ∀ k, A[k]? = some i → k ∉ resWr r0) ∨ ∃ k, tau A B n k = some i ∧ (resH r0).get k ≠ none ∧ E1.ρ i = E'.ρ k ∧ (k < A.length → k ∈ resWr r0) := fun i hi => by
      cases hgi : (resH r).get i with
      | none => exact absurd hgi hi
      | some o =>
        rcases hH' i o hgi with ⟨h1, h2⟩ | ⟨k, o1, h1, h2, _, h4⟩
        · exact .inl ⟨o, h1, hx.ρ i (hE.live (by rw [h1]; simp)), h2⟩
        · exact .inr ⟨k, h1, by rw [h2]; simp, own1 k i h1 (by rw [h2]; simp), h4⟩
    have mix : ∀ i j, (∃ o, H.get i = some o ∧ E1.ρ i = E.ρ i ∧ ∀ k, A[k]? = some i → k ∉ resWr r0) → (∃ k, tau A B n k = some j ∧ (resH r0).get k ≠ none ∧ E1.ρ j = E'.ρ k ∧ (k < A.length → k ∈ resWr r0)) → E1.ρ i = E1.ρ j → i = j := by
      rintro i j ⟨o, h1, h2, h3⟩ ⟨k, h4, h5, h6, h7⟩ e
      rw [h2, h6] at e
      have hdi := hE.live (id := i) (by rw [h1]; simp)
      by_cases hk : k < A.length
      · obtain ⟨j', e1, e2, e3, _⟩ := low k hk
        have hdk := (hke.dom k hk).1 (hE'.live h5)
        rw [hke.ρ k hk hdk, e2] at e
        have hl := (hwl k (h7 hk) hk j' e1).1
        have hij := hE.inj i j' (by rw [h1]; simp) hl e
        unfold tau at h4
        rw [show Nat.blt k A.length = true from Nat.ble_eq_true_of_le hk] at h4
        simp only [cond_true] at h4
        rw [h4] at e1
        simp only [Option.some.injEq] at e1
        rw [hij, ← e1]
      · have hkB : k ∈ B := by
          unfold tau at h4
          rw [blt_false (by omega)] at h4
          exact List.mem_of_getElem? (posN_some h4).2.2
        rcases hke.fresh k (by omega) (hBn k hkB).2 (hE'.live h5) with h8 | ⟨i2, h8, h9⟩
        · have := hE.lt i hdi; omega
        · obtain ⟨_, q2, j2, q3, q4, _, q6, _⟩ := tchA i2 h8
          rw [← h9, q4] at e
          have := hE.inj i j2 (by rw [h1]; simp) q6 e
          subst this
          exact absurd q2 (h3 i2 q3)
    rcases key i hi with h1 | h1 <;> rcases key j hj with h2 | h2
    · obtain ⟨o, a1, a2, _⟩ := h1
      obtain ⟨o', b1, b2, _⟩ := h2
      exact hE.inj i j (by rw [a1]; simp) (by rw [b1]; simp) (by rw [← a2, ← b2]; exact e)
    · exact mix i j h1 h2 e
    · exact (mix j i h2 h1 e.symm).symm
    · obtain ⟨k, a1, a2, a3, _⟩ := h1
      obtain ⟨k', b1, b2, b3, _⟩ := h2
      have := hE'.inj k k' a2 b2 (by rw [← a3, ← b3]; exact e)
      subst this
      rw [a1] at b1
      simpa using b1
  · refine blk b hb fun i j hi hj hl e => ?_
    by_cases hk : i < A.length
    · exact hno j (hwl i hi hk j hj).2 (hE.live hl) e
    · rw [List.getElem?_eq_none (by omega)] at hj; cases hj
  · have hr' := ((ht id).1 h2).resolve_left h1
    have hlen : id - n < B.length := by omega
    have hmem : B.getD (id - n) 0 ∈ B := by rw [List.getD_eq_getElem?_getD, List.getElem?_eq_getElem hlen]; exact List.getElem_mem hlen
    have hρ : E1.ρ id = E'.ρ (B.getD (id - n) 0) := by subst hE1; exact if_pos hr'
    rw [hρ]
    rcases hke.fresh _ (hBn _ hmem).1 (hBn _ hmem).2 (hE'.live (hBl _ hmem)) with h8 | ⟨i2, h8, h9⟩
    · exact .inl h8
    · obtain ⟨_, q2, j2, q3, q4, q5, q6, q7⟩ := tchA i2 h8
      exact .inr ⟨j2, q7, q5, by rw [← h9, q4]⟩
end
end Go.Proofs.YtgfjmkjhjfmbeaaGreat
