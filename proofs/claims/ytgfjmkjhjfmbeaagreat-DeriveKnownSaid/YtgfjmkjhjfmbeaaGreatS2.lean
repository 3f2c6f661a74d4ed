/- DERIVED. M with symbols, second part: operations, regions. -/
import Derived.Test.YtgfjmkjhjfmbeaaGreatS1
namespace Go.Proofs.YtgfjmkjhjfmbeaaGreat
open Go.RowKit

/-- A value, told by its sign. -/
def frcV0 (v : Value) (K : Value → Prop) : Prop :=
  match v with
  | .bool b => K (.bool b)
  | .int k n => K (.int k n)
  | .float k b => K (.float k b)
  | .complex k a b => K (.complex k a b)
  | .string s => K (.string s)
  | .pointer a => K (.pointer a)
  | .slice a n c => K (.slice a n c)
  | .map r => K (.map r)
  | .chan r => K (.chan r)
  | .func f a c => K (.func f a c)
  | .nilFunc => K .nilFunc
  | .iface t v => K (.iface t v)
  | .nilIface => K .nilIface
  | .agg a => K (.agg a)
  | .tuple a => K (.tuple a)
theorem frcV0_eq (v : Value) (K : Value → Prop) : frcV0 v K = K v := by cases v <;> rfl
def frcL0 (l : List Value) (K : List Value → Prop) : Prop :=
  match l with
  | [] => K []
  | v :: l => frcV0 v fun v => frcL0 l fun l => K (v :: l)
theorem frcL0_eq : ∀ (l : List Value) (K : List Value → Prop), frcL0 l K = K l
  | [], K => rfl
  | v :: l, K => by simp only [frcL0, frcV0_eq]; exact frcL0_eq l _
def frcV (v : Value) (K : Value → Prop) : Prop :=
  frcV0 v fun v => match v with
  | .agg a => frcL0 a.toList fun l => K (.agg l.toArray)
  | .tuple a => frcL0 a.toList fun l => K (.tuple l.toArray)
  | v => K v
theorem frcV_eq (v : Value) (K : Value → Prop) : frcV v K = K v := by
  unfold frcV
  rw [frcV0_eq]
  cases v <;> simp only [frcL0_eq]
def frcL (l : List Value) (K : List Value → Prop) : Prop :=
  match l with
  | [] => K []
  | v :: l => frcV v fun v => frcL l fun l => K (v :: l)
theorem frcL_eq : ∀ (l : List Value) (K : List Value → Prop), frcL l K = K l
  | [], K => rfl
  | v :: l, K => by simp only [frcL, frcV_eq]; exact frcL_eq l _
/-- A new block, its cells told one by one. -/
def frcB (r : ORes) (K : ORes → Prop) : Prop :=
  match r with
  | .val v [(k, some (.cells c e))] j => frcL c fun c => K (.val v [(k, some (.cells c e))] j)
  | r => K r
theorem frcB_eq (r : ORes) (K : ORes → Prop) : frcB r K = K r := by
  unfold frcB
  split
  · rw [frcL_eq]
  · rfl

section
variable (P : Program) (sy : List Nat)
def sop (o : Oper) (ev : Operand → Value) (G : Gh) (n : Nat) (K : ORes → Prop) : Prop :=
  sStr P o ev K (sRem o ev K (match o.op with
    | .load t a => sLoad P sy t (ev a) G K
    | .indexAddr t x y => sIndexAddr P t (ev x) (ev y) K
    | .lookup t x y ok => sLookup P t (ev x) (ev y) ok G K (K (aop P o ev G n))
    | .build t ps => sBuild P t (pvals ev ps) K
    | .buildSlice t l ps => sBuildSlice P t l (pvals ev ps) n fun r => frcB r K
    | .box _ _ | .alloc _ => frcB (aop P o ev G n) K
    | .call ⟨.builtin .append, ⟨[a, b]⟩, ⟨[sT, xT]⟩⟩ => sAppend P sy sT xT (ev a) (ev b) G n K (K (aop P o ev G n))
    | .store _ a _ => (match ev a with
      | .pointer (some ⟨b, _, _⟩) => bif sy.elem b then K (aop P o ev G n) else frcB (aop P o ev G n) K
      | _ => K (aop P o ev G n))
    | _ => K (aop P o ev G n)))
theorem sop_imp {o : Oper} {ev : Operand → Value} {G : Gh} {n : Nat} {K : ORes → Prop} (h : sop P sy o ev G n K) : K (aop P o ev G n) := by
  unfold sop at h
  rcases sStr_imp P h with h | ⟨v, h1, h2⟩
  · rcases sRem_imp P h with h | ⟨v, h1, h2, t, x, y, u, ho⟩
    · split at h
      · rename_i t a ho
        have := sLoad_imp P sy h
        unfold aop aop0 aStr
        simp only [ho, ORes.or]; exact this
      · rename_i t x y ho
        have := sIndexAddr_imp P h
        unfold aop aop0 aStr
        simp only [ho, ORes.or]; exact this
      · rename_i t x y ok ho
        rcases sLookup_imp P h with h | ⟨v, h1, h2⟩
        · exact h
        · unfold aop aop0 aStr
          simp only [ho, ORes.or, h1]; exact h2
      · rename_i t ps ho
        have := sBuild_imp P h
        unfold aop aop0 aStr
        simp only [ho, ORes.or]; exact this
      · rename_i t l ps ho
        have := sBuildSlice_imp P h
        rw [frcB_eq] at this
        unfold aop aop0 aStr
        simp only [ho, ORes.or]; exact this
      · rw [frcB_eq] at h; exact h
      · rw [frcB_eq] at h; exact h
      · rename_i a b sT xT ho
        rcases sAppend_imp P sy h with h | ⟨v, us, k, h1, h2⟩
        · exact h
        · unfold aop aop0 aStr
          simp only [ho, aBuiltin, List.map_cons, List.map_nil, h1, ORes.or]; exact h2
      · split at h
        · rename_i b _ _ _
          cases hb : sy.elem b with
          | true => rw [hb] at h; exact h
          | false => rw [hb] at h; simp only [cond_false, frcB_eq] at h; exact h
        · exact h
      · exact h
    · unfold aop aop0 aStr
      simp only [ho, ORes.or]
      have : aBin P .rem t (ev x) (ev y) = .bad "binOp" := by
        unfold aBin
        have : aFast .rem (ev x) (ev y) = none := by
          unfold aFast
          split
          · rename_i k a k' b _ _
            cases decide (k = k') <;> rfl
          · rfl
        rw [this]; rfl
      rw [this]
      simp only []
      rw [h1]; exact h2
  · unfold aop; rw [h1]; exact h2
end

/-! ### states in plain form -/
def frcN (n : Nat) (K : Nat → Prop) : Prop :=
  match n with
  | 0 => K 0
  | m + 1 => K (m + 1)
theorem frcN_eq (n : Nat) (K : Nat → Prop) : frcN n K = K n := by cases n <;> rfl
def frcLN (l : List Nat) (K : List Nat → Prop) : Prop :=
  match l with
  | [] => K []
  | v :: l => frcN v fun v => frcLN l fun l => K (v :: l)
theorem frcLN_eq : ∀ (l : List Nat) (K : List Nat → Prop), frcLN l K = K l
  | [], K => rfl
  | v :: l, K => by simp only [frcLN, frcN_eq]; exact frcLN_eq l _

def setK {α : Type} (x : Option α) : Nat → Tr α → Nat → (Tr α → Prop) → Prop
  | 0, t, _, K => K t
  | f + 1, t, k, K =>
    match t with
    | .e => bif k.beq 0 then K (.n .e x .e) else bif (k % 2).beq 1 then setK x f .e (k / 2) (fun l => K (.n l none .e)) else setK x f .e (k / 2 - 1) (fun r => K (.n .e none r))
    | .n l v r => bif k.beq 0 then K (.n l x r) else bif (k % 2).beq 1 then setK x f l (k / 2) (fun l => K (.n l v r)) else setK x f r (k / 2 - 1) (fun r => K (.n l v r))
theorem setK_eq {α : Type} (x : Option α) : ∀ (f : Nat) (t : Tr α) (k : Nat) (K : Tr α → Prop), setK x f t k K = K (Tr.setF x f t k)
  | 0, t, k, K => rfl
  | f + 1, t, k, K => by
    cases t with
    | e =>
      simp only [setK, Tr.setF, Tr.left, Tr.right, Tr.top]
      cases k.beq 0 <;> cases (k % 2).beq 1 <;> simp only [cond_true, cond_false] <;> first | rfl | exact setK_eq x f _ _ _
    | n l v r =>
      simp only [setK, Tr.setF, Tr.left, Tr.right, Tr.top]
      cases k.beq 0 <;> cases (k % 2).beq 1 <;> simp only [cond_true, cond_false] <;> first | rfl | exact setK_eq x f _ _ _

theorem setF_self {α : Type} (v : α) : ∀ (f : Nat) (t : Tr α) (k : Nat), k + 1 < 2 ^ f → t.get k = some v → Tr.setF (some v) f t k = t
  | 0, t, k, h, _ => by simp at h
  | f + 1, t, k, h, hg => by
    have hp : 2 ^ (f + 1) = 2 * 2 ^ f := by rw [Nat.pow_succ]; omega
    cases t with
    | e => simp [Tr.get_e] at hg
    | n l x r =>
      rw [Tr.get_n] at hg
      simp only [Tr.setF, Tr.left, Tr.right, Tr.top]
      by_cases h0 : k = 0
      · subst h0; simp at hg; simp [hg]
      · have hb : k.beq 0 = false := by cases hb : k.beq 0; rfl; exact absurd (Nat.eq_of_beq_eq_true hb) h0
        rw [hb]
        by_cases h2 : k % 2 = 1
        · have h3 : (k % 2).beq 1 = true := by rw [h2]; rfl
          rw [h3]
          simp only [h0, h2, if_true, if_false] at hg
          simp only [cond_true, cond_false]
          rw [setF_self v f l (k / 2) (by omega) hg]
        · have h3 : (k % 2).beq 1 = false := by cases hb : (k % 2).beq 1; rfl; exact absurd (Nat.eq_of_beq_eq_true hb) h2
          rw [h3]
          simp only [h0, h2, if_false] at hg
          simp only [cond_false]
          rw [setF_self v f r (k / 2 - 1) (by omega) hg]
theorem set_self {α : Type} {t : Tr α} {k : Nat} {v : α} (h : t.get k = some v) : Tr.setF (some v) (k.log2 + 2) t k = t := by
  refine setF_self v _ t k ?_ h
  have h1 : k < 2 ^ (k.log2 + 1) := Nat.lt_log2_self
  have hp : 2 ^ (k.log2 + 2) = 2 * 2 ^ (k.log2 + 1) := by rw [Nat.pow_succ 2 (k.log2 + 1)]; omega
  omega

/-- Which way a slot's test goes; the slot tells it from then on. -/
def askB (T : Tr Value) (t : Tmp) (A B : Tr Value → Prop) (D : Prop) : Prop :=
  match T.get t with
  | some (.bool b) => brK b (setK (some (.bool true)) (t.log2 + 2) T t A) (setK (some (.bool false)) (t.log2 + 2) T t B)
  | _ => D
theorem askB_imp {T : Tr Value} {t : Tmp} {A B : Tr Value → Prop} {D : Prop} (h : askB T t A B D) : (T.get t = some (.bool true) ∧ A T) ∨ (T.get t = some (.bool false) ∧ B T) ∨ ((∀ b, T.get t ≠ some (.bool b)) ∧ D) := by
  unfold askB at h
  split at h
  · rename_i b hb
    simp only [setK_eq] at h
    cases b with
    | true => rw [set_self hb] at h; exact .inl ⟨hb, h⟩
    | false => rw [set_self hb] at h; exact .inr (.inl ⟨hb, h⟩)
  · rename_i hb
    exact .inr (.inr ⟨fun b e => hb b e, h⟩)

def sxGuard (ops : Array Oper) (T : Tr Value) (o : Oper) (A B : Tr Value → Prop) : Prop :=
  match o.guard with
  | none => A T
  | some (j, want) => match (ops[j]?).bind (·.dst) with
    | some t => askB T t (fun T => bif want then A T else B T) (fun T => bif want then B T else A T) (B T)
    | none => B T
theorem sxGuard_imp {ops : Array Oper} {T : Tr Value} {o : Oper} {A B : Tr Value → Prop} (h : sxGuard ops T o A B) : (guardOk ops T o = true ∧ A T) ∨ (guardOk ops T o = false ∧ B T) := by
  unfold sxGuard at h
  unfold guardOk
  cases hg : o.guard with
  | none => rw [hg] at h; exact .inl ⟨rfl, h⟩
  | some jw =>
    obtain ⟨j, want⟩ := jw
    rw [hg] at h
    simp only [] at h ⊢
    cases hd : (ops[j]?).bind (·.dst) with
    | none => rw [hd] at h; exact .inr ⟨rfl, h⟩
    | some t =>
      rw [hd] at h
      simp only [] at h ⊢
      rcases askB_imp h with ⟨h1, h2⟩ | ⟨h1, h2⟩ | ⟨h1, h2⟩
      · rw [h1]; cases want
        · exact .inr ⟨rfl, h2⟩
        · exact .inl ⟨rfl, h2⟩
      · rw [h1]; cases want
        · exact .inl ⟨rfl, h2⟩
        · exact .inr ⟨rfl, h2⟩
      · refine .inr ⟨?_, h2⟩
        split
        · rename_i b e; exact absurd e (h1 b)
        · rfl

def sxPut (nt : Nat) (T : Tr Value) (dst : Option Tmp) (v : Value) (K : Tr Value → Prop) : Prop :=
  match dst with
  | none => K T
  | some d => bif Nat.blt d nt then frcV v fun v => setK (some v) (d.log2 + 2) T d K else False
theorem sxPut_imp {nt : Nat} {T : Tr Value} {dst : Option Tmp} {v : Value} {K : Tr Value → Prop} (h : sxPut nt T dst v K) : ∃ T', putT nt T dst v = some T' ∧ K T' := by
  unfold sxPut at h
  cases dst with
  | none => exact ⟨T, rfl, h⟩
  | some d =>
    simp only [] at h
    cases hb : Nat.blt d nt with
    | false => rw [hb] at h; exact h.elim
    | true =>
      rw [hb] at h
      simp only [cond_true, frcV_eq, setK_eq] at h
      exact ⟨_, by simp [putT, hb]; rfl, h⟩

def sxUs (H : Tr AObj) (us : List (Nat × Option AObj)) (K : Tr AObj → Prop) : Prop :=
  match us with
  | [] => K H
  | (k, x) :: us => setK x (k.log2 + 2) H k fun H => sxUs H us K
theorem sxUs_eq : ∀ (us : List (Nat × Option AObj)) (H : Tr AObj) (K : Tr AObj → Prop), sxUs H us K = K (applyUs H us)
  | [], H, K => rfl
  | (k, x) :: us, H, K => by
    simp only [sxUs, setK_eq]
    exact sxUs_eq us _ K
def wrOf : List (Nat × Option AObj) → List Nat → List Nat
  | [], wr => wr
  | (k, _) :: us, wr => k :: wrOf us wr
theorem wrOf_eq : ∀ (us : List (Nat × Option AObj)) (wr : List Nat), wrOf us wr = us.map (·.1) ++ wr
  | [], wr => rfl
  | (k, _) :: us, wr => by simp [wrOf, wrOf_eq us wr]

/-- What is known of calls. -/
structure Tb (P : Program) (g0 : Nat) where
  km : Bool
  res : FuncId → List Value → Tr AObj → Nat → Res
  k : FuncId → List Value → Tr AObj → Nat → (Res → Prop) → Prop
  ok : ∀ f args H n, TOK P g0 (.call f args) ⟨.e, H, n, [], []⟩ (res f args H n)
  imp : ∀ f args H n (K : Res → Prop), k f args H n K → K (res f args H n)

noncomputable def Tb.go {P : Program} {g0 : Nat} (tb : Tb P g0) (t : Task) (s : Fs) : Res :=
  match t with
  | .call f args => tb.res f args s.H s.n
  | .dcall f args u => ev P g0 100 (.dcall f args u) s
  | _ => .bad "" []
theorem Tb.go_ok {P : Program} (hm : P.follows .mixedOrders = true) {g0 : Nat} (tb : Tb P g0) (t : Task) (s : Fs) : TOK P g0 t s (tb.go t s) := by
  match t with
  | .call f args =>
    have := tb.ok f args s.H s.n
    unfold Tb.go
    simp only []
    generalize tb.res f args s.H s.n = r at this ⊢
    cases r <;> exact this
  | .code nt rd c => trivial
  | .loop nt rd c => trivial
  | .dcall f args u => exact ev_ok hm g0 100 (.dcall f args u) s

section
variable {P : Program} {g0 : Nat} (tb : Tb P g0) (sy : List Nat)

def sxCall (c : CallTo) (H : Tr AObj) (n : Nat) (K : Res → Prop) : Prop :=
  match c with
  | .fn f args => bif callable P f then frcL args fun args => tb.k f args H n K else False
  | _ => False
theorem sxCall_imp {c : CallTo} {H : Tr AObj} {n : Nat} {K : Res → Prop} (h : sxCall tb c H n K) : K (evCall P tb.go c H n) := by
  unfold sxCall at h
  cases c with
  | fn f args =>
    simp only [] at h
    cases hc : callable P f with
    | false => rw [hc] at h; exact h.elim
    | true =>
      rw [hc] at h
      simp only [cond_true, frcL_eq] at h
      unfold evCall
      simp only [hc, cond_true]
      exact tb.imp f args H n K h
  | yield l args => exact h.elim
  | no => exact h.elim

/-- One operation. -/
def sxOp (nt : Nat) (rd : Option Nat) (o : Oper) (s : Fs) (K : Ex → Fs → Prop) : Prop :=
  match s with
  | ⟨T0, H0, n0, wr0, df0⟩ =>
  bif okOps g0 o then
    match isCall o with
    | some c => sxCall tb (callTo P (aev T0) c) H0 n0 fun r =>
      (match r with
      | .ret v H n wr => sxPut nt T0 o.dst v fun T => K .normal ⟨T, H, n, wr ++ wr0, df0⟩
      | .pan ch H n wr => K (.pan ch) ⟨T0, H, n, wr ++ wr0, df0⟩
      | _ => False)
    | none =>
      bif isDefer o then (match evDefer nt rd o ⟨T0, H0, n0, wr0, df0⟩ with | .code x s' => K x s' | _ => False) else
        sop P sy o (aev T0) H0.get n0 fun r =>
        (match r with
        | .val v us k => bif keysOk n0 k us H0.get then sxPut nt T0 o.dst v fun T => sxUs H0 us fun H => frcN (n0 + k) fun n => K .normal ⟨T, H, n, wrOf us wr0, df0⟩ else False
        | .pan v => K (.pan [(v, false)]) ⟨T0, H0, n0, wr0, df0⟩
        | .bad _ => False)
  else False

theorem sxOp_imp {nt : Nat} {rd : Option Nat} {o : Oper} {s : Fs} {K : Ex → Fs → Prop} (h : sxOp tb sy nt rd o s K) : ∃ x s', evOp P g0 tb.go nt rd o s = .code x s' ∧ K x s' := by
  obtain ⟨T0, H0, n0, wr0, df0⟩ := s
  unfold sxOp at h
  unfold evOp
  simp only [] at h ⊢
  cases hok : okOps g0 o with
  | false => rw [hok] at h; exact h.elim
  | true =>
    rw [hok] at h
    simp only [cond_true] at h ⊢
    cases hc : isCall o with
    | some c =>
      rw [hc] at h
      simp only [] at h ⊢
      have := sxCall_imp tb h
      generalize evCall P tb.go (callTo P (aev T0) c) H0 n0 = r at this ⊢
      cases r with
      | ret v H n wr =>
        simp only [] at this ⊢
        obtain ⟨T, h1, h2⟩ := sxPut_imp this
        rw [h1]; exact ⟨_, _, rfl, h2⟩
      | pan ch H n wr => exact ⟨_, _, rfl, this⟩
      | code _ _ => exact this.elim
      | bad _ _ => exact this.elim
    | none =>
      rw [hc] at h
      simp only [] at h ⊢
      cases hd : isDefer o with
      | true =>
        rw [hd] at h
        simp only [cond_true] at h ⊢
        generalize evDefer nt rd o ⟨T0, H0, n0, wr0, df0⟩ = r at h ⊢
        cases r with
        | code x s' => exact ⟨_, _, rfl, h⟩
        | _ => exact h.elim
      | false =>
        rw [hd] at h
        simp only [cond_false] at h ⊢
        have := sop_imp P sy h
        generalize aop P o (aev T0) H0.get n0 = r at this ⊢
        cases r with
        | bad m => exact this.elim
        | pan v => exact ⟨_, _, rfl, this⟩
        | val v us k =>
          simp only [] at this ⊢
          cases hk : keysOk n0 k us H0.get with
          | false => rw [hk] at this; exact this.elim
          | true =>
            rw [hk] at this
            simp only [cond_true] at this ⊢
            obtain ⟨T, h1, h2⟩ := sxPut_imp this
            rw [sxUs_eq, frcN_eq, wrOf_eq] at h2
            rw [h1]; exact ⟨_, _, rfl, h2⟩

/-- A region in its order. -/
def sxOps (nt : Nat) (rd : Option Nat) (ops : Array Oper) : List Nat → Fs → (Ex → Fs → Prop) → Prop
  | [], s, K => K .normal s
  | i :: l, ⟨T0, H0, n0, wr0, df0⟩, K =>
    match ops[i]? with
    | none => sxOps nt rd ops l ⟨T0, H0, n0, wr0, df0⟩ K
    | some o =>
      sxGuard ops T0 o
        (fun T0 => sxOp tb sy nt rd o ⟨T0, H0, n0, wr0, df0⟩ fun x s' => (match x with | .normal => sxOps nt rd ops l s' K | x => K x s'))
        (fun T0 => sxPut nt T0 o.dst undef fun T => sxOps nt rd ops l ⟨T, H0, n0, wr0, df0⟩ K)
theorem sxOps_imp {nt : Nat} {rd : Option Nat} {ops : Array Oper} : ∀ (l : List Nat) (s : Fs) (K : Ex → Fs → Prop), sxOps tb sy nt rd ops l s K → ∃ x s', evOps P g0 tb.go nt rd ops l s = .code x s' ∧ K x s'
  | [], s, K, h => ⟨_, _, rfl, h⟩
  | i :: l, ⟨T0, H0, n0, wr0, df0⟩, K, h => by
    unfold sxOps at h
    unfold evOps
    simp only [] at h ⊢
    cases ho : ops[i]? with
    | none => rw [ho] at h; exact sxOps_imp l _ K h
    | some o =>
      rw [ho] at h
      simp only [] at h ⊢
      rcases sxGuard_imp h with ⟨hg, h⟩ | ⟨hg, h⟩
      rotate_left
      · rw [hg]
        simp only [cond_false] at h ⊢
        obtain ⟨T, h1, h2⟩ := sxPut_imp h
        rw [h1]; exact sxOps_imp l _ K h2
      · rw [hg]
        simp only [cond_true] at h ⊢
        obtain ⟨x, s', h1, h2⟩ := sxOp_imp tb sy h
        rw [h1]
        cases x with
        | normal => exact sxOps_imp l s' K h2
        | exit id => exact ⟨_, _, rfl, h2⟩
        | goto l => exact ⟨_, _, rfl, h2⟩
        | ret => exact ⟨_, _, rfl, h2⟩
        | pan ch => exact ⟨_, _, rfl, h2⟩

/-- An operation that writes nothing and makes nothing. -/
def still (r : Rec) : Bool := r.W.isEmpty && r.lo.beq r.hi && r.ids.isSome
theorem still_spec {r : Rec} (h : still r = true) : (∀ k, inK r k = false) ∧ ∃ l, r.ids = some l := by
  simp only [still, Bool.and_eq_true, List.isEmpty_iff] at h
  obtain ⟨⟨h1, h2⟩, h3⟩ := h
  have h2 := Nat.eq_of_beq_eq_true h2
  refine ⟨fun k => ?_, Option.isSome_iff_exists.1 h3⟩
  cases hk : inK r k with
  | false => rfl
  | true =>
    rcases inK_iff.1 hk with h | h
    · rw [h1] at h; cases h
    · omega
theorem still_apartR {r r' : Rec} (h : still r = true) (h' : still r' = true) : apartR r r' = true := by
  obtain ⟨h1, _⟩ := still_spec h
  obtain ⟨_, l, hl⟩ := still_spec h'
  unfold apartR
  rw [hl]
  simp only [h1, Bool.not_false, List.all_eq_true]
  exact fun _ _ => trivial
theorem still_apartW {r r' : Rec} (h : still r = true) (h' : still r' = true) (hle : r'.hi ≤ r.lo) : apartW r r' = true := by
  have h0 := h
  have h0' := h'
  simp only [still, Bool.and_eq_true, List.isEmpty_iff] at h0 h0'
  unfold apartW
  rw [h0.1.1, h0'.1.1, Nat.ble_eq_true_of_le hle]
  simp
/-- 'fits', its numbers at hand. -/
def inKv (W : List Nat) (lo hi k : Nat) : Bool := W.elem k || (lo.ble k && Nat.blt k hi)
def apartRv (W : List Nat) (lo hi : Nat) (ids : Option (List Nat)) (ids' : Option (List Nat)) (Hin' : Tr AObj) : Bool :=
  match ids' with
  | some l => l.all fun k => !inKv W lo hi k
  | none => (W.all fun k => (Hin'.get k).isNone) && (match ids with | some _ => (seqL lo (hi - lo)).all fun k => (Hin'.get k).isNone | none => false)
def apartWv (W : List Nat) (lo hi : Nat) (W' : List Nat) (lo' hi' : Nat) : Bool := (W.all fun k => !inKv W' lo' hi' k) && (W'.all fun k => !inKv W lo hi k) && (hi.ble lo' || hi'.ble lo)
def fitK (pre : List Nat) (i lo hi : Nat) (W : List Nat) (ids : Option (List Nat)) (Hin : Tr AObj) : List Rec → Bool
  | [] => true
  | ⟨i', _, lo', hi', W', ids', Hin', _⟩ :: rs => (!(freeOf pre i i') || (apartRv W lo hi ids ids' Hin' && apartRv W' lo' hi' ids' ids Hin && apartWv W lo hi W' lo' hi')) && fitK pre i lo hi W ids Hin rs
theorem fitK_eq (pre : List Nat) (r : Rec) : ∀ rs : List Rec, fitK pre r.i r.lo r.hi r.W r.ids r.Hin rs = fits pre r rs
  | [] => rfl
  | r' :: rs => by
    unfold fitK fits
    rw [List.all_cons]
    rw [fitK_eq pre r rs]
    rfl
/-- 'fits', where nothing is written it goes by itself. -/
def fitsQ (q : Bool) (pre : List Nat) (r : Rec) (rs : List Rec) : Bool :=
  match r with
  | ⟨i, _, lo, hi, W, ids, Hin, _⟩ => bif q && (W.isEmpty && lo.beq hi && ids.isSome) then true else fitK pre i lo hi W ids Hin rs
theorem fitsQ_spec {q : Bool} {pre : List Nat} {r : Rec} {rs : List Rec} (hq : q = true → ∀ r' ∈ rs, still r' = true ∧ r'.hi ≤ r.lo) (h : fitsQ q pre r rs = true) : fits pre r rs = true := by
  have h : (bif q && still r then true else fitK pre r.i r.lo r.hi r.W r.ids r.Hin rs) = true := h
  rw [fitK_eq] at h
  cases hs : (q && still r) with
  | false => rw [hs] at h; exact h
  | true =>
    simp only [Bool.and_eq_true] at hs
    unfold fits
    refine List.all_eq_true.2 fun r' hr' => ?_
    obtain ⟨h1, h2⟩ := hq hs.1 r' hr'
    rw [still_apartR hs.2 h1, still_apartR h1 hs.2, still_apartW hs.2 h1 h2]
    simp

/-- A region in whatever order. -/
def sxDraw (nt : Nat) (rd : Option Nat) (ops : Array Oper) (pre : List Nat) : List Nat → Nat → Bool → List Rec → Fs → (Fs → Prop) → Prop
  | [], done, _, rs, s, K => bif done.beq (2 ^ ops.size - 1) && rs.length.beq ops.size then K s else False
  | i :: l, done, q, rs, ⟨T0, H0, n0, wr0, df0⟩, K =>
    bif !(done.testBit i) && (pre.getD i 0 &&& done).beq (pre.getD i 0) then
      match ops[i]? with
      | none => False
      | some o =>
        brK (!guardOk ops T0 o)
          (sxPut nt T0 o.dst undef fun T =>
            let r : Rec := ⟨i, undef, n0, n0, [], some [], .e, H0⟩
            bif fitsQ q pre r rs then frcN (done ||| 2 ^ i) fun done => sxDraw nt rd ops pre l done (q && still r) (r :: rs) ⟨T, H0, n0, wr0, df0⟩ K else False)
          (bif okOps g0 o then
          match isCall o with
          | some c =>
            let Hin := hide pre i H0 rs
            sxCall tb (callTo P (aev T0) c) Hin n0 fun r =>
            (match r with
            | .ret v H n wr => sxPut nt T0 o.dst v fun T =>
                let r : Rec := ⟨i, v, n0, n, wr, none, Hin, H⟩
                bif fitsQ q pre r rs && (wr.all fun k => (Hin.get k).isSome) then frcN (done ||| 2 ^ i) fun done => sxDraw nt rd ops pre l done (q && still r) (r :: rs) ⟨T, unhide pre i H0 H rs, n, wr ++ wr0, df0⟩ K else False
            | _ => False)
          | none =>
            bif isDefer o then False else
              frcLN (idsOf (aev T0) o) fun ids =>
              sop P sy o (aev T0) (restr ids H0.get) n0 fun r =>
              (match r with
              | .val v us k => bif keysOk n0 k us (restr ids H0.get) && ids.all (fun j => Nat.blt j n0) then (sxPut nt T0 o.dst v fun T => sxUs H0 us fun H => frcN (n0 + k) fun n => frcLN ((us.map (fun u => u.1)).filter (fun j => !(n0.ble j && Nat.blt j n))) fun W =>
                  let r : Rec := ⟨i, v, n0, n, W, some ids, .e, H⟩
                  bif fitsQ q pre r rs then frcN (done ||| 2 ^ i) fun done => sxDraw nt rd ops pre l done (q && (W.isEmpty && n0.beq n)) (r :: rs) ⟨T, H, n, wrOf us wr0, df0⟩ K else False) else False
              | _ => False)
          else False)
    else False

theorem bif_false {b : Bool} {p : Prop} (h : bif b then p else False) : b = true ∧ p := by cases b; exact h.elim; exact ⟨rfl, h⟩

theorem still_next {q : Bool} {rs : List Rec} {n m : Nat} (hq : q = true → ∀ r' ∈ rs, still r' = true ∧ r'.hi ≤ n) (hn : n ≤ m) {r : Rec} (hr : r.hi = m := by rfl) : (q && still r) = true → ∀ r' ∈ r :: rs, still r' = true ∧ r'.hi ≤ m := by
  intro h r' hm
  simp only [Bool.and_eq_true] at h
  rcases List.mem_cons.1 hm with rfl | hm
  · exact ⟨h.2, Nat.le_of_eq hr⟩
  · obtain ⟨h1, h2⟩ := hq h.1 r' hm
    exact ⟨h1, Nat.le_trans h2 hn⟩

theorem sxDraw_imp {nt : Nat} {rd : Option Nat} {ops : Array Oper} {pre : List Nat} : ∀ (l : List Nat) (done : Nat) (q : Bool) (rs : List Rec) (s : Fs) (K : Fs → Prop), (q = true → ∀ r' ∈ rs, still r' = true ∧ r'.hi ≤ s.n) → sxDraw tb sy nt rd ops pre l done q rs s K → ∃ s', evDraw P g0 tb.go nt rd ops pre l done rs s = .code .normal s' ∧ K s'
  | [], done, q, rs, s, K, hq, h => by
    unfold sxDraw at h
    obtain ⟨h1, h2⟩ := bif_false h
    unfold evDraw
    rw [h1]; exact ⟨_, rfl, h2⟩
  | i :: l, done, q, rs, ⟨T0, H0, n0, wr0, df0⟩, K, hq, h => by
    unfold sxDraw at h
    simp only [] at h
    obtain ⟨h1, h⟩ := bif_false h
    unfold evDraw
    rw [h1]
    simp only [cond_true]
    cases ho : ops[i]? with
    | none => rw [ho] at h; exact h.elim
    | some o =>
      rw [ho] at h
      simp only [] at h ⊢
      cases hg : guardOk ops T0 o with
      | false =>
        rw [hg] at h
        simp only [Bool.not_false, cond_true] at h ⊢
        obtain ⟨T, hp, h⟩ := sxPut_imp h
        rw [hp]
        obtain ⟨h2, h3⟩ := bif_false h
        rw [frcN_eq] at h3
        simp only [fitsQ_spec hq h2, cond_true]
        exact sxDraw_imp l _ _ _ _ K (still_next hq (Nat.le_refl _)) h3
      | true =>
        rw [hg] at h
        simp only [Bool.not_true, cond_false] at h ⊢
        obtain ⟨hok, h⟩ := bif_false h
        rw [hok]
        simp only [cond_true]
        cases hc : isCall o with
        | some c =>
          rw [hc] at h
          simp only [] at h ⊢
          have := sxCall_imp tb h
          generalize evCall P tb.go (callTo P (aev T0) c) (hide pre i H0 rs) n0 = r at this ⊢
          cases r with
          | ret v H n wr =>
            simp only [] at this ⊢
            obtain ⟨T, hp, this⟩ := sxPut_imp this
            rw [hp]
            obtain ⟨h2, h3⟩ := bif_false this
            rw [frcN_eq] at h3
            simp only [Bool.and_eq_true] at h2
            simp only [fitsQ_spec hq h2.1, h2.2, Bool.and_self, cond_true]
            refine sxDraw_imp l _ _ _ _ K (fun hs => ?_) h3
            simp [still] at hs
          | pan ch H n wr => exact this.elim
          | code _ _ => exact this.elim
          | bad _ _ => exact this.elim
        | none =>
          rw [hc] at h
          simp only [] at h ⊢
          cases hd : isDefer o with
          | true => rw [hd] at h; exact h.elim
          | false =>
            rw [hd] at h
            simp only [cond_false, frcLN_eq] at h ⊢
            have := sop_imp P sy h
            generalize aop P o (aev T0) (restr (idsOf (aev T0) o) H0.get) n0 = r at this ⊢
            cases r with
            | bad m => exact this.elim
            | pan v => exact this.elim
            | val v us k =>
              simp only [] at this ⊢
              obtain ⟨h2, this⟩ := bif_false this
              rw [h2]
              simp only [cond_true]
              obtain ⟨T, hp, this⟩ := sxPut_imp this
              rw [sxUs_eq, wrOf_eq, frcN_eq] at this
              rw [hp]
              obtain ⟨h4, h5⟩ := bif_false this
              rw [frcN_eq] at h5
              simp only [fitsQ_spec hq h4, cond_true]
              exact sxDraw_imp l _ _ _ _ K (fun hs => still_next hq (Nat.le_add_right _ _) rfl (by simpa [still] using hs)) h5
end
end Go.Proofs.YtgfjmkjhjfmbeaaGreat
