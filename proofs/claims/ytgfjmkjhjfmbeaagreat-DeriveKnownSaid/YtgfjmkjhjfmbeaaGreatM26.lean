/- DERIVED. The machine M: a loop over a map whose rounds turn nothing, and may return: its evaluation. -/
import Derived.Test.YtgfjmkjhjfmbeaaGreatM25
namespace Go.Proofs.YtgfjmkjhjfmbeaaGreat
open Go.RowKit

/-! ## values without new names -/
def oldV1 (n : Nat) : Value → Bool
  | .bool _ | .int _ _ | .float _ _ | .string _ | .pointer none | .slice none _ _ | .map none | .nilFunc | .nilIface | .chan none => true
  | .pointer (some ⟨b, _, none⟩) => Nat.blt b n
  | .slice (some ⟨b, _, none⟩) _ _ => Nat.blt b n
  | .map (some b) => Nat.blt b n
  | _ => false
def oldVf (n : Nat) : Nat → Value → Bool
  | f + 1, .tuple a => a.toList.all (oldVf n f)
  | f + 1, .agg a => a.toList.all (oldVf n f)
  | _, v => oldV1 n v
def oldV (n : Nat) (v : Value) : Bool := oldVf n 4 v
theorem VR.down1 {E E' : Env} {n n' : Nat} (hx : Ext E E') (ht : Took E E' n n') {v v' : Value} (h : VR E' v v') (ho : oldV1 n v = true) : VR E v v' := by
  have low : ∀ {b : Nat}, E'.dom b → Nat.blt b n = true → E.dom b := fun {b} hb hl => by
    have : b + 1 ≤ n := Nat.le_of_ble_eq_true hl
    exact ((ht b).1 hb).resolve_right (by omega)
  cases h with
  | bool b => exact .bool b
  | int k n => exact .int k n
  | float k b => exact .float k b
  | string s => exact .string s
  | pnil => exact .pnil
  | ptr b o hb => have := low hb ho; rw [hx.ρ b this]; exact .ptr b o this
  | snil l c => exact .snil l c
  | sl b o n c hb hc => have := low hb ho; rw [hx.ρ b this]; exact .sl b o n c this hc
  | su b o n c hb h1 h2 h3 => have := low hb ho; rw [hx.ρ b this]; exact .su b o n c this h1 h2 (by rw [← hx.sz b this, ← hx.tot b this]; exact h3)
  | se b o o' c hb hc => have := low hb ho; rw [hx.ρ b this]; exact .se b o o' c this (by rw [← hx.tot b this]; exact hc)
  | mnil => exact .mnil
  | map b hb => have := low hb ho; rw [hx.ρ b this]; exact .map b this
  | func fn q q' cs cs' hf ha hc => cases ho
  | yield l hl => cases ho
  | fnil => exact .fnil
  | iface t v v' h => cases ho
  | inil => exact .inil
  | agg a a' h => cases ho
  | tuple a a' h => cases ho
  | ub t a => cases ho
  | any v' h => exact .any v' h
theorem VR.downf {E E' : Env} {n n' : Nat} (hx : Ext E E') (ht : Took E E' n n') : ∀ (f : Nat) {v v' : Value}, VR E' v v' → oldVf n f v = true → VR E v v' := by
  intro f
  induction f with
  | zero => intro v v' h ho; exact h.down1 hx ht (by cases v <;> first | exact ho | rfl | cases ho)
  | succ f ih =>
    have key : ∀ {l l' : List Value}, VL E' l l' → l.all (oldVf n f) = true → VL E l l' := by
      intro l
      induction l with
      | nil => intro l' h _; cases h; exact .nil
      | cons v l ihl =>
        intro l' h ho
        cases h with
        | cons _ v' _ l' h t =>
          simp only [List.all_cons, Bool.and_eq_true] at ho
          exact .cons _ _ _ _ (ih h ho.1) (ihl t ho.2)
    intro v v' h ho
    unfold oldVf at ho
    split at ho
    · rename_i e; cases e; cases h with | tuple _ a' h => exact .tuple _ _ (key h ho)
    · rename_i e; cases e; cases h with | agg _ a' h => exact .agg _ _ (key h ho)
    · exact h.down1 hx ht ho
theorem VR.down {E E' : Env} {n n' : Nat} (hx : Ext E E') (ht : Took E E' n n') {v v' : Value} (h : VR E' v v') (ho : oldV n v = true) : VR E v v' := h.downf hx ht 4 ho

/-! ## slots of which less is known -/
def an1 (v : Value) : Value := bif anyOk v then .chan none else v
def anXf : Nat → Value → Value
  | f + 1, .tuple a => .tuple (a.toList.map (anXf f)).toArray
  | f + 1, .agg a => .agg (a.toList.map (anXf f)).toArray
  | _, v => an1 v
def anX (v : Value) : Value := anXf 4 v
theorem VR.anyOk {E : Env} {v v' : Value} (h : VR E v v') (hv : Go.Proofs.YtgfjmkjhjfmbeaaGreat.anyOk v = true) : Go.Proofs.YtgfjmkjhjfmbeaaGreat.anyOk v' = true := by
  cases h <;> first | exact ‹_› | rfl | cases hv
theorem VR.an1 {E : Env} {v v' : Value} (h : VR E v v') : VR E (an1 v) v' := by
  unfold Go.Proofs.YtgfjmkjhjfmbeaaGreat.an1
  cases hv : Go.Proofs.YtgfjmkjhjfmbeaaGreat.anyOk v with
  | true => exact .any _ (h.anyOk hv)
  | false => exact h
theorem VR.anXf {E : Env} : ∀ (f : Nat) {v v' : Value}, VR E v v' → VR E (Go.Proofs.YtgfjmkjhjfmbeaaGreat.anXf f v) v' := by
  intro f
  induction f with
  | zero => intro v v' h; unfold Go.Proofs.YtgfjmkjhjfmbeaaGreat.anXf; exact h.an1
  | succ f ih =>
    have key : ∀ {l l' : List Value}, VL E l l' → VL E (l.map (Go.Proofs.YtgfjmkjhjfmbeaaGreat.anXf f)) l' := by
      intro l
      induction l with
      | nil => intro l' h; cases h; exact .nil
      | cons v l ihl => intro l' h; cases h with | cons _ v' _ l' h t => exact .cons _ _ _ _ (ih h) (ihl t)
    intro v v' h
    unfold Go.Proofs.YtgfjmkjhjfmbeaaGreat.anXf
    split
    · rename_i e; cases e; cases h with | tuple _ a' h => exact .tuple _ _ (by simpa using key h)
    · rename_i e; cases e; cases h with | agg _ a' h => exact .agg _ _ (by simpa using key h)
    · exact h.an1
theorem VR.anX {E : Env} {v v' : Value} (h : VR E v v') : VR E (anX v) v' := h.anXf 4
def eqW1 : Value → Value → Bool
  | .slice (some ⟨a, o, none⟩) n c, .slice (some ⟨b, p, none⟩) m d => a.beq b && o.beq p && n.beq m && c.beq d
  | .slice none n c, .slice none m d => n.beq m && c.beq d
  | .pointer none, .pointer none => true
  | .map none, .map none => true
  | .nilIface, .nilIface => true
  | .nilFunc, .nilFunc => true
  | v, u => eqV1 v u
theorem eqW1_eq {a b : Value} (h : eqW1 a b = true) : a = b := by
  unfold eqW1 at h
  split at h
  · simp only [Bool.and_eq_true] at h
    obtain ⟨⟨⟨h1, h2⟩, h3⟩, h4⟩ := h
    rw [Nat.eq_of_beq_eq_true h1, Nat.eq_of_beq_eq_true h2, Nat.eq_of_beq_eq_true h3, Nat.eq_of_beq_eq_true h4]
  · simp only [Bool.and_eq_true] at h
    rw [Nat.eq_of_beq_eq_true h.1, Nat.eq_of_beq_eq_true h.2]
  · rfl
  · rfl
  · rfl
  · rfl
  · exact eqV1_eq h
def all2 (p : Value → Value → Bool) : List Value → List Value → Bool
  | [], [] => true
  | a :: l, b :: m => p a b && all2 p l m
  | _, _ => false
theorem all2_eq {p : Value → Value → Bool} (hp : ∀ a b, p a b = true → a = b) : ∀ {a b : List Value}, all2 p a b = true → a = b
  | [], [], _ => rfl
  | a :: l, b :: m, h => by
    simp only [all2, Bool.and_eq_true] at h
    rw [hp _ _ h.1, all2_eq hp h.2]
  | [], _ :: _, h => by simp [all2] at h
  | _ :: _, [], h => by simp [all2] at h
def eqWf : Nat → Value → Value → Bool
  | f + 1, .tuple a, .tuple b => all2 (eqWf f) a.toList b.toList
  | f + 1, .agg a, .agg b => all2 (eqWf f) a.toList b.toList
  | _, v, u => eqW1 v u
theorem eqWf_eq : ∀ (f : Nat) (a b : Value), eqWf f a b = true → a = b := by
  intro f
  induction f with
  | zero => intro a b h; unfold eqWf at h; exact eqW1_eq h
  | succ f ih =>
    intro a b h
    unfold eqWf at h
    split at h
    · rename_i e; cases e; rw [Array.ext' (all2_eq ih h)]
    · rename_i e; cases e; rw [Array.ext' (all2_eq ih h)]
    · exact eqW1_eq h
def eqW (a b : Value) : Bool := eqWf 4 a b
theorem eqW_eq {a b : Value} (h : eqW a b = true) : a = b := eqWf_eq 4 a b h

def coverV (n : Nat) (v u : Value) : Bool := oldV n u && (eqW v u || eqW (anX v) u)
def coverT (n nt : Nat) (T' T1 : Tr Value) : Bool := (seqL 0 nt).all fun t => coverV n ((T'.get t).getD undef) ((T1.get t).getD undef)
def joinT (n nt : Nat) (l : List (Tr Value)) : Tr Value :=
  match l with
  | [] => .e
  | T0 :: l => (seqL 0 nt).foldl (fun R t =>
      let v := (T0.get t).getD undef
      R.set t (some (bif oldV n v && l.all (fun T => eqW ((T.get t).getD undef) v) then v else anX v))) .e

/-! ## the loop -/
def sparse : Code → Option (MLoop × Code)
  | .seq (.region id0 r0 false) (.seq (.cond cx .skip (.exit x)) (.block b (.seq (.region id1 r1 false) rest))) => some (⟨r0, r1, #[], id0, id1, 0, cx, x, b⟩, rest)
  | _ => none
def scode (L : MLoop) (rest : Code) : Code := .seq (.region L.id0 L.r0 false) (.seq (.cond L.cx .skip (.exit L.x)) (.block L.b (.seq (.region L.id1 L.r1 false) rest)))
theorem sparse_code {c rest : Code} {L : MLoop} (h : sparse c = some (L, rest)) : c = scode L rest := by
  unfold sparse at h
  split at h
  · cases h; rfl
  · cases h
def skeys (L : MLoop) : Option MKeys :=
  match (L.r0[0]?).bind isNext, (L.r1[0]?).bind isEntry with
  | some (it0, t0), some (it1, t1) => some ⟨it0, t0, it1, t1, 0, it0, it0, it0⟩
  | _, _ => none
theorem skeys_spec {L : MLoop} {K : MKeys} (h : skeys L = some K) : ∃ o0 o1, L.r0[0]? = some o0 ∧ isNext o0 = some (K.it0, K.t0) ∧ L.r1[0]? = some o1 ∧ isEntry o1 = some (K.it1, K.t1) := by
  unfold skeys at h
  split at h
  · rename_i it0 t0 it1 t1 h0 h1
    cases h
    obtain ⟨o0, a0, b0⟩ := Option.bind_eq_some_iff.1 h0
    obtain ⟨o1, a1, b1⟩ := Option.bind_eq_some_iff.1 h1
    exact ⟨o0, o1, a0, b0, a1, b1⟩
  · cases h

section
variable (P : Program) (g0 : Nat) (rec : Task → Fs → Res) (nt : Nat) (rd : Option Nat)

def sslots (L : MLoop) (K : MKeys) (G : Gh) (n b : Nat) (T : Tr Value) (e : MapEntry) : Option (Tr Value) :=
  bif okX g0 K.it0 && eqV1 (aev T K.it0) (.pointer (some ⟨b, 0, none⟩)) then
    (putT nt T (some K.t0) (.tuple #[.bool true, e.key, e.val])).bind fun Ta =>
    (evPre P g0 nt L.r0 G n (tailIx L.r0) Ta).bind fun Tb =>
    bif okX g0 L.cx && okX g0 K.it1 && eqV1 (aev Tb L.cx) (.bool true) && eqV1 (aev Tb K.it1) (.pointer (some ⟨b, 0, none⟩)) then
      putT nt Tb (some K.t1) (.tuple #[e.key, e.val])
    else none
  else none

/-- A round: does it return; the slots behind it; how many names it has given. -/
def sround (L : MLoop) (rest : Code) (K : MKeys) (H1 : Tr AObj) (n b : Nat) (T : Tr Value) (e : MapEntry) : Option (Bool × Tr Value × Nat) :=
  match sslots P g0 nt L K H1.get n b T e with
  | none => none
  | some Tc =>
    match evOps P g0 rec nt rd L.r1 (tailIx L.r1) ⟨Tc, H1, n, [], []⟩ with
    | .code .normal s2 =>
      (match rec (.code nt rd rest) s2 with
      | .code x s' =>
        bif s'.df.isEmpty && (own n s'.n s'.wr).isEmpty then
          (match x with
          | .normal => some (false, s'.T, s'.n)
          | .exit id => bif id.beq L.b then some (false, s'.T, s'.n) else none
          | .ret => some (true, s'.T, s'.n)
          | _ => none)
        else none
      | _ => none)
    | _ => none

def rets (r : Option (Bool × Tr Value × Nat)) : Bool := match r with | some (b, _, _) => b | none => true
def slT (r : Option (Bool × Tr Value × Nat)) : Tr Value := match r with | some (_, T, _) => T | none => .e
def nmT (r : Option (Bool × Tr Value × Nat)) : Nat := match r with | some (_, _, n) => n | none => 0
/-- A round's outcome is covered. -/
def fine (n N : Nat) (T1 TR : Tr Value) (k : Bool) (r : Option (Bool × Tr Value × Nat)) : Bool :=
  match r with
  | some (b, T, m) => (b == k) && m.ble N && coverT n nt T (bif k then TR else T1)
  | none => false

/-- A loop over a map whose rounds turn nothing, and may return. -/
def sloop (c : Code) (s : Fs) : Option Res :=
  match sparse c with
  | none => none
  | some (L, rest) =>
    match skeys L, s.df with
    | some K, [] =>
      (match aev s.T K.it0 with
      | .pointer (some ⟨b, 0, none⟩) =>
        (match s.H.get b with
        | some (.mit m since) =>
          (match s.H.get m with
          | some (.map es ck) =>
            bif since.beq ck && !(m.beq b) then
              let H1 := s.H.set b none
              let rs := es.map fun e => sround P g0 rec nt rd L rest K H1 s.n b s.T e
              let N := rs.foldl (fun a r => bif a.ble (nmT r) then nmT r else a) s.n
              let T1 := joinT s.n nt ((rs.filter fun r => !rets r).map slT)
              let TR := joinT s.n nt ((rs.filter rets).map slT)
              bif s.n.ble N && (es.all fun e => let r := sround P g0 rec nt rd L rest K H1 s.n b s.T e; fine nt s.n N T1 TR (rets r) r)
                && ((es.all fun e => rets (sround P g0 rec nt rd L rest K H1 s.n b s.T e)) || es.all fun e => fine nt s.n N T1 TR (rets (sround P g0 rec nt rd L rest K H1 s.n b s.T e)) (sround P g0 rec nt rd L rest K H1 s.n b T1 e)) then
                bif es.any fun e => rets (sround P g0 rec nt rd L rest K H1 s.n b s.T e) then some (.code .ret ⟨TR, H1, N, b :: s.wr, []⟩)
                else (match mend P g0 nt L K H1.get s.n b (match es with | [] => s.T | _ => T1) with
                  | some T => some (.code (.exit L.x) ⟨T, H1, N, b :: s.wr, []⟩)
                  | none => none)
              else none
            else none
          | _ => none)
        | _ => none)
      | _ => none)
    | _, _ => none
end
end Go.Proofs.YtgfjmkjhjfmbeaaGreat
