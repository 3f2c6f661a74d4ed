/- DERIVED. M with symbols, sixth part: contracts; M with contracts. -/
import Derived.Test.YtgfjmkjhjfmbeaaGreatS5
import Derived.Test.YtgfjmkjhjfmbeaaGreatM28
namespace Go.Proofs.YtgfjmkjhjfmbeaaGreat
open Go.RowKit

/-- What is known of one function. -/
structure Ct (P : Program) (g0 : Nat) where
  f : FuncId
  res : List Value → Tr AObj → Nat → Res
  ok : ∀ args H n, TOK P g0 (.call f args) ⟨.e, H, n, [], []⟩ (res args H n)
  ck : List Value → Tr AObj → Nat → (Res → Prop) → Prop
  imp : ∀ args H n (K : Res → Prop), ck args H n K → K (res args H n)

def findC {P : Program} {g0 : Nat} (f : FuncId) : List (Ct P g0) → Option (Ct P g0)
  | [] => none
  | c :: l => bif c.f.beq f then some c else findC f l
theorem findC_f {P : Program} {g0 : Nat} {f : FuncId} : ∀ {l : List (Ct P g0)} {c : Ct P g0}, findC f l = some c → c.f = f
  | d :: l, c, h => by
    unfold findC at h
    cases hb : d.f.beq f with
    | true => rw [hb] at h; simp at h; subst h; exact Nat.eq_of_beq_eq_true hb
    | false => rw [hb] at h; exact findC_f (l := l) h

section
variable (P : Program) (g0 : Nat) (l : List (Ct P g0))
def stepT (rec : Task → Fs → Res) (t : Task) (s : Fs) : Res :=
  match t with
  | .call f args => (match findC f l with | some c => c.res args s.H s.n | none => step P g0 rec t s)
  | .loop nt rd c => (match mloop P g0 nt c s with | some (.code x s') => .code x s' | _ => (match sloop P g0 rec nt rd c s with | some (.code x s') => .code x s' | _ => step P g0 rec t s))
  | _ => step P g0 rec t s
/-- M, for so many steps, with contracts. -/
noncomputable def evT (n : Nat) : Task → Fs → Res := Nat.rec (fun _ _ => .bad "fuel" []) (fun _ ih t s => stepT P g0 l ih t s) n
end

theorem stepT_ok {P : Program} {g0 : Nat} (hm : P.follows .mixedOrders = true) (l : List (Ct P g0)) {rec : Task → Fs → Res} (hrec : ∀ t s, TOK P g0 t s (rec t s)) (t : Task) (s : Fs) : TOK P g0 t s (stepT P g0 l rec t s) := by
  match t with
  | .call f args =>
    unfold stepT
    simp only []
    cases hf : findC f l with
    | none => exact step_ok hm hrec _ s
    | some c =>
      have := c.ok args s.H s.n
      rw [findC_f hf] at this
      simp only []
      generalize c.res args s.H s.n = r at this ⊢
      cases r <;> exact this
  | .code nt rd c => exact step_ok hm hrec _ s
  | .loop nt rd c =>
    unfold stepT
    simp only []
    split
    · rename_i x s' h
      exact mloop_ok h
    · split
      · rename_i x s' h
        exact sloop_ok hrec h
      · exact step_ok hm hrec _ s
  | .dcall f args u => exact step_ok hm hrec _ s
theorem evT_ok {P : Program} (hm : P.follows .mixedOrders = true) {g0 : Nat} (l : List (Ct P g0)) : ∀ (n : Nat) (t : Task) (s : Fs), TOK P g0 t s (evT P g0 l n t s)
  | 0, t, s => by show TOK P g0 t s (.bad "fuel" []); cases t <;> trivial
  | n + 1, t, s => stepT_ok hm l (evT_ok hm l n) t s

noncomputable def tbK {P : Program} (hm : P.follows .mixedOrders = true) {g0 : Nat} (km : Bool) (l : List (Ct P g0)) : Tb P g0 where
  km := km
  res f args H n := evT P g0 l 1000 (.call f args) ⟨.e, H, n, [], []⟩
  k f args H n K := match findC f l with
    | some c => c.ck args H n K
    | none => K (evT P g0 l 1000 (.call f args) ⟨.e, H, n, [], []⟩)
  ok f args H n := evT_ok hm l 1000 (.call f args) ⟨.e, H, n, [], []⟩
  imp f args H n K h := by
    cases hf : findC f l with
    | none => rw [hf] at h; exact h
    | some c =>
      rw [hf] at h
      have := c.imp args H n K h
      show K (stepT P g0 l (evT P g0 l 999) (.call f args) ⟨.e, H, n, [], []⟩)
      unfold stepT
      simp only [hf]
      exact this

noncomputable abbrev tbOf {P : Program} (hm : P.follows .mixedOrders = true) {g0 : Nat} (l : List (Ct P g0)) : Tb P g0 := tbK hm false l

/-- What a closed call is known to give, the model gives. -/
theorem tok_true {P : Program} {f : FuncId} {r : Res} (ht : TOK P 0 (.call f []) fs0 r) (h : retTrue r = true) (w : World) : Calls P f #[] w fun e w' => e = .returned (.bool true) ∧ Below w.heap.size w w' := by
  unfold retTrue at h
  split at h
  · have hc := ht.2 env0 w #[] (fun g hg => by omega) .nil ⟨fun _ h => h.elim, fun _ _ => rfl, (fun _ _ h => by cases h), (fun _ _ h => absurd rfl h)⟩ (fun _ _ => rfl) (fun _ _ _ h => h)
    refine (callsIn_wide.1 hc).mono ?_
    rintro e w' ⟨E', v', rfl, hv, hx, _, _, hs⟩
    cases hv
    exact ⟨rfl, hs.os, hs.tape, hs.output, hs.size, fun b hb => hs.block b hb (fun _ h => by cases h)⟩
  · cases h
theorem evT_true {P : Program} (hm : P.follows .mixedOrders = true) (l : List (Ct P 0)) (fuel : Nat) (f : FuncId) (h : retTrue (evT P 0 l fuel (.call f []) fs0) = true) (w : World) : Calls P f #[] w fun e w' => e = .returned (.bool true) ∧ Below w.heap.size w w' := tok_true (evT_ok hm l fuel _ _) h w

/-- A contract of which the result is told outright. -/
def Ct.of {P : Program} {g0 : Nat} (f : FuncId) (res : List Value → Tr AObj → Nat → Res) (ok : ∀ args H n, TOK P g0 (.call f args) ⟨.e, H, n, [], []⟩ (res args H n)) : Ct P g0 := ⟨f, res, ok, fun args H n K => K (res args H n), fun _ _ _ _ h => h⟩

theorem callOK_pure {P : Program} {f : FuncId} {args : List Value} {v : Value} {H' : Tr AObj} {n' : Nat} {wr : List Nat} (hF : FnS P 0 f args .e 0 (.ret v H' n' wr)) (ha : plainL args = true) (hv : plainV 8 v = true) (H : Tr AObj) (n : Nat) : CallOK P 0 f args H n (.ret v H n []) := by
  refine callOK_of_fns (A := []) (B := []) rfl hF List.nodup_nil (Nat.zero_le _) (plain_rl ha) (fun k o h => by cases h) List.nodup_nil (fun x hx => by cases hx) (fun x hx => by cases hx) (.ret _ _ _ _ _ _ _ _ (plain_rv 8 hv)) rfl (Grw.refl _ _ _) (fun k _ hk => by simp at hk) (fun j o h => .inl ⟨h, fun k hk => by simp at hk⟩)

/-- Of a function that only reads, a number of blocks. -/
theorem callOK_reads {P : Program} {f : FuncId} {args0 args : List Value} {H0 : Tr AObj} {v : Value} {H' : Tr AObj} {n' : Nat} {wr : List Nat} (A : List Nat) (hF : FnS P 0 f args0 H0 A.length (.ret v H' n' wr)) (hwr : ∀ k ∈ wr, A.length ≤ k)
    {H : Tr AObj} {n : Nat} (hA : A.Nodup) (hAJ : A.length ≤ JJ) (hargs : RL (sgO 0 A) args args0) (hH : Blocks (sgO 0 A) (un 0 A) A.length H H0) (hv : plainV 8 v = true) : CallOK P 0 f args H n (.ret v H n []) := by
  refine callOK_of_fns (A := A) (B := []) rfl hF hA hAJ hargs hH List.nodup_nil (fun x hx => by cases hx) (fun x hx => by cases hx) (.ret _ _ _ _ _ _ _ _ (plain_rv 8 hv)) rfl (Grw.refl _ _ _) (fun k hk hl => absurd (hwr k hk) (by omega)) (fun j o h => .inl ⟨h, fun k hk hm => ?_⟩)
  have := hwr k hm
  rw [List.getElem?_eq_none this] at hk; cases hk

def bodyOf (fn : Func) : Code := fn.body.getD .skip

def frcTr {α : Type} (t : Tr α) (K : Tr α → Prop) : Prop :=
  match t with
  | .e => K .e
  | .n l v r => frcTr l fun l => frcTr r fun r => K (.n l v r)
theorem frcTr_eq {α : Type} : ∀ (t : Tr α) (K : Tr α → Prop), frcTr t K = K t
  | .e, K => rfl
  | .n l v r, K => by
    simp only [frcTr]
    rw [frcTr_eq l, frcTr_eq r]

/-- A function's walk. -/
theorem fn_sx {P : Program} (hm : P.follows .mixedOrders = true) {g0 : Nat} (tb : Tb P g0) (sy : List Nat) {f : FuncId} {fn : Func} {c : Code} (hf : P.funcs[f]? = some fn) (hb : fn.body = some c) {args : List Value} {H0 : Tr AObj} {n0 : Nat} {R : Res → Prop}
    (h : frcTr (tmpsOf args 0 .e) fun T => sx tb sy n0 (args.length + (fn.ntmps - args.length)) none c ⟨T, H0, n0, [], []⟩ (fnK tb fn R)) : ∃ r, FnS P g0 f args H0 n0 r ∧ R r := by
  rw [frcTr_eq] at h
  exact fn_of_cw hm tb hf hb (sx_ok tb sy n0 _ none hm _ _ _ h)
end Go.Proofs.YtgfjmkjhjfmbeaaGreat
