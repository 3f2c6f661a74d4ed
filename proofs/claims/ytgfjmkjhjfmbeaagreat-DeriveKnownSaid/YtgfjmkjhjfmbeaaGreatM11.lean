/- DERIVED. The machine M, eleventh part: what its evaluation says of the model: frames, single operations, calls, rounds, plain regions. -/
import Derived.Test.YtgfjmkjhjfmbeaaGreatM10
import Derived.RangeFuncLeaves
import Derived.RecoverIn
namespace Go.Proofs.YtgfjmkjhjfmbeaaGreat
open Go.RowKit

def rdF (E : Env) : Option Nat → Fence
  | none => Fence.wide
  | some l => Fence.wide.inRound (E.ρ l)

theorem rdF_fn (E : Env) (rd : Option Nat) (f : FuncId) : (rdF E rd).fn f := by cases rd <;> exact trivial
theorem rdF_depth (E : Env) (rd : Option Nat) : (rdF E rd).depth = none := by cases rd <;> rfl

inductive CR (E : Env) : List (Value × Bool) → List PanicEntry → Prop
  | nil : CR E [] []
  | cons (v : Value) (b : Bool) (p : PanicEntry) (l : List (Value × Bool)) (l' : List PanicEntry) (h : VR E v p.v) (hb : p.recovered = b) (hg : p.goexit = false) (t : CR E l l') : CR E ((v, b) :: l) (p :: l')
theorem CR.ext {E E' : Env} (x : Ext E E') {l : List (Value × Bool)} {l' : List PanicEntry} (h : CR E l l') : CR E' l l' := by
  induction h with
  | nil => exact .nil
  | cons v b p l l' h hb hg t ih => exact .cons v b p l l' (h.ext x) hb hg ih

inductive DR (E : Env) : List ADf → List Deferred → Prop
  | nil : DR E [] []
  | mark (d : Nat) (l : List ADf) (l' : List Deferred) (h : E.dom d) (t : DR E l l') : DR E (.mark d :: l) ({ target := .collected (E.ρ d), args := #[] } :: l')
  | call (f : FuncId) (cap args : List Value) (cap' args' : Array Value) (l : List ADf) (l' : List Deferred) (hc : VL E cap cap'.toList) (ha : VL E args args'.toList) (t : DR E l l') : DR E (.call f cap args :: l) ({ target := .fn (.func f) cap', args := args' } :: l')
theorem DR.ext {E E' : Env} (x : Ext E E') {l : List ADf} {l' : List Deferred} (h : DR E l l') : DR E' l l' := by
  induction h with
  | nil => exact .nil
  | mark d l l' h t ih => rw [← x.ρ d h]; exact .mark d l l' (x.n d h) ih
  | call f cap args cap' args' l l' hc ha t ih => exact .call f cap args cap' args' l l' (hc.ext x) (ha.ext x) ih

/-- No name from n on is in use. -/
def Low (n : Nat) (H : Tr AObj) : Prop := ∀ k, n ≤ k → H.get k = none
theorem Low.lt {n : Nat} {H : Tr AObj} (h : Low n H) {k : Nat} (hk : H.get k ≠ none) : k < n := by
  rcases Nat.lt_or_ge k n with h1 | h1
  · exact h1
  · exact absurd (h k h1) hk
theorem Low.set {n : Nat} {H : Tr AObj} (h : Low n H) {k : Nat} (hk : k < n) (x : Option AObj) : Low n (H.set k x) := fun j hj => by
  rw [Tr.get_set_ne _ _ (by omega)]; exact h j hj
theorem Low.new {n : Nat} {H : Tr AObj} (h : Low n H) (x : Option AObj) : Low (n + 1) (H.set n x) := fun j hj => by
  rw [Tr.get_set_ne _ _ (by omega)]; exact h j (by omega)

/-- What the model's frame and heap show of M's. -/
structure FRm (P : Program) (g0 : Nat) (E0 : Env) (w0 : World) (E : Env) (nt : Nat) (rd : Option Nat) (s : Fs) (a : Act) (w : World) : Prop where
  tr : TR E s.T nt a.tmps
  hr : HR P E s.H.get w
  lw : Low s.n s.H
  stp : Stp E0 E s.wr w0 w
  df : DR E s.df a.defers
  gl : ∀ g, g < g0 → E.dom g ∧ E.ρ g = g
  rd : ∀ l, rd = some l → E.dom l

/-- The names from a to b are not given yet. -/
def Free (E : Env) (a b : Nat) : Prop := ∀ k, a ≤ k → k < b → ¬ E.dom k
/-- They have been given. -/
def Took (E E' : Env) (a b : Nat) : Prop := ∀ k, E'.dom k ↔ E.dom k ∨ (a ≤ k ∧ k < b)
theorem Took.trans {A B C : Env} {a b c : Nat} (h : Took A B a b) (k : Took B C b c) (h1 : a ≤ b) (h2 : b ≤ c) : Took A C a c := fun i => by
  rw [k i, h i]; constructor
  · rintro ((h | h) | h)
    · exact .inl h
    · exact .inr (by omega)
    · exact .inr (by omega)
  · rintro (h | h)
    · exact .inl (.inl h)
    · rcases Nat.lt_or_ge i b with h3 | h3
      · exact .inl (.inr (by omega))
      · exact .inr (by omega)
theorem Took.refl (E : Env) (a : Nat) : Took E E a a := fun _ => ⟨.inl, fun h => h.resolve_right (by omega)⟩
theorem Free.left {E : Env} {a b c : Nat} (h : Free E a c) (hb : b ≤ c) : Free E a b := fun k h1 h2 => h k h1 (by omega)
theorem Free.right {E E' : Env} {a b c : Nat} (h : Free E a c) (ht : Took E E' a b) (hab : a ≤ b) : Free E' b c := fun k h1 h2 hd => by
  rcases (ht k).1 hd with h3 | h3
  · exact h k (by omega) h2 h3
  · omega

/-- What M's heap keeps. -/
structure Grw (n n' : Nat) (H H' : Tr AObj) (wr : List Nat) : Prop where
  le : n ≤ n'
  same : ∀ k, k < n → k ∉ wr → H'.get k = H.get k
  low : Low n H → Low n' H'
theorem Grw.refl (n : Nat) (H : Tr AObj) (wr : List Nat) : Grw n n H H wr := ⟨Nat.le_refl _, fun _ _ _ => rfl, fun h => h⟩
theorem Grw.trans {a b c : Nat} {A B C : Tr AObj} {wr wr' : List Nat} (h : Grw a b A B wr) (k : Grw b c B C wr') (hs : ∀ x ∈ wr, x ∈ wr') : Grw a c A C wr' :=
  ⟨Nat.le_trans h.le k.le, fun i h1 h2 => (k.same i (by have := h.le; omega) h2).trans (h.same i h1 (fun hi => h2 (hs i hi))), fun h0 => k.low (h.low h0)⟩

def exR (E : Env) : Ex → Exit → Prop
  | .normal, .normal => True
  | .exit id, .exit id' => id' = id
  | .goto l, .goto l' => l' = l
  | .ret, .ret => True
  | .pan ch, .panic ch' => CR E ch ch'
  | _, _ => False

def CPost (P : Program) (g0 : Nat) (E0 : Env) (w0 : World) (E : Env) (nt : Nat) (rd : Option Nat) (n : Nat) (x : Ex) (s' : Fs) : Exit → Act → World → Prop := fun e a' w' =>
  ∃ E', Ext E E' ∧ Took E E' n s'.n ∧ FRm P g0 E0 w0 E' nt rd s' a' w' ∧ exR E' x e

def CodeOK (P : Program) (g0 nt : Nat) (rd : Option Nat) (c : Code) (s : Fs) (x : Ex) (s' : Fs) : Prop :=
  (Grw s.n s'.n s.H s'.H s'.wr ∧ ∀ k ∈ s.wr, k ∈ s'.wr) ∧
  ∀ (E0 : Env) (w0 : World) (E : Env) (a : Act) (w : World), FRm P g0 E0 w0 E nt rd s a w → Free E s.n s'.n → c.wpIn (rdF E rd) 0 P (CPost P g0 E0 w0 E nt rd s.n x s') a w

/-- How a call ends. -/
def CallEnd (P : Program) (E : Env) (n : Nat) (w : World) : Res → Ending → World → Prop
  | .ret v H n' wr, e, w' => ∃ E' v', e = .returned v' ∧ VR E' v v' ∧ Ext E E' ∧ Took E E' n n' ∧ HR P E' H.get w' ∧ Stp E E' wr w w'
  | .pan ch H n' wr, e, w' => ∃ E' ch', e = .panicked ch' ∧ CR E' ch ch' ∧ Ext E E' ∧ Took E E' n n' ∧ HR P E' H.get w' ∧ Stp E E' wr w w'
  | _, _, _ => False

def endN : Res → Nat → Nat
  | .ret _ _ n _, _ => n
  | .pan _ _ n _, _ => n
  | _, d => d
def endGrw (n : Nat) (H : Tr AObj) : Res → Prop
  | .ret _ H' n' wr => Grw n n' H H' wr
  | .pan _ H' n' wr => Grw n n' H H' wr
  | _ => False

def CallOK (P : Program) (g0 : Nat) (f : FuncId) (args : List Value) (H : Tr AObj) (n : Nat) (r : Res) : Prop :=
  endGrw n H r ∧ ∀ (E : Env) (w : World) (args' : Array Value), (∀ g, g < g0 → E.dom g ∧ E.ρ g = g) → VL E args args'.toList → HR P E H.get w → Low n H → Free E n (endN r n) →
    CallsIn Fence.wide 0 P f args' w (CallEnd P E n w r)

/-- In a loop, at a round's head. -/
def inLoopIn (F : Fence) (n : Nat) (P : Program) (c : Code) (Q : Exit → Act → World → Prop) (a : Act) (w : World) : Prop :=
  ∀ (b : Frame) (k : List Item) (cs : List Frame), b.roundOf = F.round → F.fn b.fn → F.room (cs.length + 1 + n) →
    ∃ e a' w', Q e a' w' ∧ ArrivesIn (Machine.fenced P F) P (lone (b.atR a (.code c :: .inLoop c :: k)) cs w) b k cs e a' w'
theorem inLoop_round {F : Fence} {n : Nat} {P : Program} {c : Code} {Q : Exit → Act → World → Prop} {a : Act} {w : World} (h : c.wpIn F n P (Exit.then (inLoopIn F n P c Q) Q) a w) : inLoopIn F n P c Q a w := by
  intro b k cs hro hb hr
  obtain ⟨e, a₁, w₁, hq, harr⟩ := h b (.inLoop c :: k) cs hro hb hr
  cases e with
  | normal =>
    obtain ⟨e₂, a₂, w₂, hq₂, harr₂⟩ := hq b k cs hro hb hr
    exact ⟨e₂, a₂, w₂, hq₂, .of_steps (StepsIn.trans harr (.one (fenced_calm hb hr rfl) stepR_inLoop)) harr₂⟩
  | exit id => exact ⟨_, a₁, w₁, hq, .pass (x := .inLoop c) rfl (fun _ _ => .inl (by simp)) harr⟩
  | goto l => exact ⟨_, a₁, w₁, hq, .pass (x := .inLoop c) rfl (fun _ _ => .inl (by simp)) harr⟩
  | ret => exact ⟨_, a₁, w₁, hq, .pass (x := .inLoop c) rfl (fun _ _ => .inl (by simp)) harr⟩
  | panic ch => exact ⟨_, a₁, w₁, hq, .pass (x := .inLoop c) rfl (fun _ _ => .inl (by simp)) harr⟩
  | outgrown => exact ⟨_, a₁, w₁, hq, .pass (x := .inLoop c) rfl (fun _ _ => .inl (by simp)) harr⟩
theorem wpIn_inLoop {F : Fence} {n : Nat} {P : Program} {c : Code} {Q : Exit → Act → World → Prop} {a : Act} {w : World} (h : inLoopIn F n P c Q a w) : (Code.loop c).wpIn F n P Q a w := by
  intro b k cs hro hb hr
  obtain ⟨e, a', w', hq, harr⟩ := h b k cs hro hb hr
  exact ⟨e, a', w', hq, .of_steps (.one (fenced_calm hb hr rfl) stepR_loop) harr⟩

def LoopOK (P : Program) (g0 nt : Nat) (rd : Option Nat) (c : Code) (s : Fs) (x : Ex) (s' : Fs) : Prop :=
  (Grw s.n s'.n s.H s'.H s'.wr ∧ ∀ k ∈ s.wr, k ∈ s'.wr) ∧
  ∀ (E0 : Env) (w0 : World) (E : Env) (a : Act) (w : World), FRm P g0 E0 w0 E nt rd s a w → Free E s.n s'.n → inLoopIn (rdF E rd) 0 P c (CPost P g0 E0 w0 E nt rd s.n x s') a w

/-- A frame's way out, as M has it. -/
inductive UR (E : Env) : Option (List (Value × Bool)) → FrameMode → Prop
  | none : UR E none .returning
  | some (ch : List (Value × Bool)) (ch' : List PanicEntry) (h : CR E ch ch') : UR E (some ch) (.panicking ch')
theorem UR.ext {E E' : Env} (x : Ext E E') {u : Option (List (Value × Bool))} {u' : FrameMode} (h : UR E u u') : UR E' u u' := by
  cases h with
  | none => exact .none
  | some ch ch' h => exact .some ch ch' (h.ext x)
theorem UR.ne {E : Env} {u : Option (List (Value × Bool))} {u' : FrameMode} (h : UR E u u') : u' ≠ .run := by cases h <;> simp

/-- How the frame below goes on behind a deferred call. -/
def modeBehind : Ending → FrameMode → FrameMode
  | .returned _, u => settle u
  | .panicked ch, u => raised u ch
  | .outgrown, _ => .run
def resMode : Res → Option (List (Value × Bool))
  | .pan ch _ _ _ => some ch
  | _ => none
def DEnd (P : Program) (E : Env) (n : Nat) (w : World) (r : Res) : Ending → FrameMode → World → Prop := fun e u w' =>
  match r with
  | .ret _ H n' wr | .pan _ H n' wr => e ≠ .outgrown ∧ ∃ E', UR E' (resMode r) (modeBehind e u) ∧ Ext E E' ∧ Took E E' n n' ∧ HR P E' H.get w' ∧ Stp E E' wr w w'
  | _ => False
def DcallOK (P : Program) (g0 : Nat) (f : FuncId) (args : List Value) (u : Option (List (Value × Bool))) (H : Tr AObj) (n : Nat) (r : Res) : Prop :=
  endGrw n H r ∧ ∀ (E : Env) (w : World) (args' : Array Value) (u' : FrameMode), (∀ g, g < g0 → E.dom g ∧ E.ρ g = g) → VL E args args'.toList → UR E u u' → HR P E H.get w → Low n H → Free E n (endN r n) →
    CallsDIn Fence.wide 0 P f args' u' w (DEnd P E n w r)

/-- What a result says. -/
def TOK (P : Program) (g0 : Nat) (t : Task) (s : Fs) (r : Res) : Prop :=
  match t, r with
  | .code nt rd c, .code x s' => CodeOK P g0 nt rd c s x s'
  | .loop nt rd c, .code x s' => LoopOK P g0 nt rd c s x s'
  | .call f args, .ret v H n wr => CallOK P g0 f args s.H s.n (.ret v H n wr)
  | .call f args, .pan ch H n wr => CallOK P g0 f args s.H s.n (.pan ch H n wr)
  | .dcall f args u, .ret v H n wr => DcallOK P g0 f args u s.H s.n (.ret v H n wr)
  | .dcall f args u, .pan ch H n wr => DcallOK P g0 f args u s.H s.n (.pan ch H n wr)
  | _, _ => True

section
variable {P : Program} {g0 : Nat} {E0 : Env} {w0 : World}

theorem CPost.trans {E E1 : Env} {nt n : Nat} {rd : Option Nat} {s1 s' : Fs} {x : Ex} {e : Exit} {a : Act} {w : World} (hx : Ext E E1) (ht : Took E E1 n s1.n) (h1 : n ≤ s1.n) (h2 : s1.n ≤ s'.n)
    (h : CPost P g0 E0 w0 E1 nt rd s1.n x s' e a w) : CPost P g0 E0 w0 E nt rd n x s' e a w := by
  obtain ⟨E', k1, k2, k3, k4⟩ := h
  exact ⟨E', hx.trans k1, ht.trans k2 h1 h2, k3, k4⟩

theorem rdF_ext {E E1 : Env} (hx : Ext E E1) {rd : Option Nat} (hrd : ∀ l, rd = some l → E.dom l) : rdF E1 rd = rdF E rd := by
  cases rd with
  | none => rfl
  | some l => simp only [rdF, hx.ρ l (hrd l rfl)]

/-! ### temporaries -/
theorem TR.put {E : Env} {T T' : Tr Value} {nt : Nat} {a : Act} {dst : Option Tmp} {v v' : Value} (h : TR E T nt a.tmps) (hv : VR E v v') (hp : putT nt T dst v = some T') : TR E T' nt (a.put dst v').tmps := by
  cases dst with
  | none => simp [putT] at hp; subst hp; exact h
  | some d =>
    simp only [putT] at hp
    cases hd : Nat.blt d nt with
    | false => simp [hd] at hp
    | true =>
      simp [hd] at hp; subst hp
      have hlt : d + 1 ≤ nt := Nat.le_of_ble_eq_true hd
      refine ⟨by simp [Act.put, h.1], fun t => ?_⟩
      simp only [Act.put]
      rw [Tr.get_set]
      by_cases ht : t = d
      · subst ht
        rw [if_pos rfl]
        simp only [Option.getD_some]
        rw [Array.getD_eq_getD_getElem?, Array.getElem?_setIfInBounds_self_of_lt (by rw [h.1]; exact hlt)]
        exact hv
      · rw [if_neg ht]
        have := h.2 t
        rw [Array.getD_eq_getD_getElem?] at this ⊢
        rwa [Array.getElem?_setIfInBounds_ne (Ne.symm ht)]
theorem put_defers (a : Act) (dst : Option Tmp) (v : Value) : (a.put dst v).defers = a.defers := by cases dst <;> rfl

theorem VR.undef {E : Env} : VR E undef undef := .tuple _ _ .nil

theorem VR.isBool {E : Env} {v v' : Value} (h : VR E v v') (b : Bool) : v' = .bool b ↔ v = .bool b := by
  cases h with
  | any v' h => cases v' <;> first | (cases h; done) | simp
  | _ => simp

theorem guard_eq {E : Env} {T : Tr Value} {nt : Nat} {tmps : Array Value} (h : TR E T nt tmps) (ops : Array Oper) (o : Oper) : Region.wanted o (yielded ops tmps) = guardOk ops T o := by
  unfold Region.wanted guardOk
  cases hg : o.guard with
  | none => rfl
  | some jw =>
    obtain ⟨j, want⟩ := jw
    simp only []
    unfold yielded
    cases hd : (ops[j]?).bind (·.dst) with
    | none => rfl
    | some t =>
      simp only [Option.bind_some]
      have ht := h.2 t
      have key : ∀ b, tmps[t]? = some (.bool b) ↔ T.get t = some (.bool b) := by
        intro b
        have hb := ht.isBool b
        constructor
        · intro e
          have : tmps.getD t undef = .bool b := by rw [Array.getD_eq_getD_getElem?, e]; rfl
          have := hb.1 this
          cases hT : T.get t with
          | none => rw [hT] at this; cases this
          | some v => rw [hT] at this; simp at this; rw [this]
        · intro e
          rw [e] at hb
          have := hb.2 rfl
          rw [Array.getD_eq_getD_getElem?] at this
          cases hT : tmps[t]? with
          | none => rw [hT] at this; cases this
          | some v => rw [hT] at this; simp at this; rw [this]
      cases hT : T.get t with
      | none =>
        cases hA : tmps[t]? with
        | none => rfl
        | some v =>
          cases v <;> try rfl
          rename_i b
          have := (key b).1 hA
          rw [hT] at this; cases this
      | some u =>
        cases u with
        | bool b => rw [(key b).2 hT]; rfl
        | _ =>
          cases hA : tmps[t]? with
          | none => rfl
          | some v =>
            cases v <;> try rfl
            rename_i b
            have := (key b).1 hA
            rw [hT] at this; cases this

theorem aev_rel {E : Env} {T : Tr Value} {nt : Nat} {a : Act} (h : TR E T nt a.tmps) (hg : ∀ g, g < g0 → E.dom g ∧ E.ρ g = g) {x : Operand} (hx : okX g0 x = true) : VR E (aev T x) (a.eval x) := by
  cases x with
  | tmp t => exact h.2 t
  | const v => exact plain_refl 8 hx
  | global g =>
    have hlt : g + 1 ≤ g0 := Nat.le_of_ble_eq_true hx
    have := VR.ptr (E := E) g 0 (hg g hlt).1
    rw [(hg g hlt).2] at this
    exact this
  | func f => exact .func _ _ _ _ _ rfl .nil .nil

theorem applyUs_get : ∀ (us : List (Nat × Option AObj)) (H : Tr AObj), (applyUs H us).get = upd us H.get
  | [], _ => rfl
  | (k, x) :: us, H => by
    rw [applyUs, applyUs_get us, upd]
    congr 1
    funext j
    exact Tr.get_set H k j x
theorem upd_out : ∀ (us : List (Nat × Option AObj)) (G : Gh) (k : Nat), k ∉ us.map (·.1) → upd us G k = G k
  | [], _, _, _ => rfl
  | (i, x) :: us, G, k, h => by
    simp at h
    rw [upd, upd_out us _ k (by simpa using h.2)]
    exact if_neg h.1

/-! ### single operations -/
theorem callable_spec {f : FuncId} (h : callable P f = true) : ∃ fn c, P.funcs[f]? = some fn ∧ fn.body = some c ∧ ∀ (args : Array Value) (w : World), (callFunc f args).run P w = .ok (.enter f args) w := by
  unfold callable at h
  cases hf : P.funcs[f]? with
  | none => simp [hf] at h
  | some fn =>
    simp only [hf, Bool.and_eq_true, Bool.not_eq_true'] at h
    obtain ⟨h1, h2⟩ := h
    cases hb : fn.body with
    | none => simp [hb] at h1
    | some c =>
      refine ⟨fn, c, rfl, hb, fun args w => ?_⟩
      have h2' : ¬ fn.name = "runtime.NumGoroutine" := by simpa using h2
      simp [callFunc, hf, h2', hb]

theorem isCall_some {o : Oper} {c : Call} (h : isCall o = some c) : o.op = .call c ∧ ∀ b, c.callee ≠ .builtin b := by
  unfold isCall at h
  split at h
  · rename_i c' ho
    split at h
    · cases h
    · rename_i hb
      simp at h; subst h
      exact ⟨ho, fun b e => hb b e⟩
  · cases h

theorem run_call_fn {w : World} {evc : Operand → Value} {o : Oper} {c : Call} {g : Operand} {f : FuncId} {first cap : Array Value} (ho : o.op = .call c) (hc : c.callee = .value g) (hg : evc g = .func (.func f) first cap) (he : ∀ (args : Array Value) (w : World), (callFunc f args).run P w = .ok (.enter f args) w) :
    (execOp evc o).run P w = .ok (.enter f (first ++ c.args.map evc ++ cap)) w := by
  simp [execOp, ho, resolve, hc, hg, Deferred.ofValue, invoke, he]

theorem run_call_yield {w : World} {evc : Operand → Value} {o : Oper} {c : Call} {g : Operand} {l : Nat} (ho : o.op = .call c) (hc : c.callee = .value g) (hg : evc g = .func (.yield l) #[] #[]) :
    (execOp evc o).run P w = (Instr.yield l (c.args.map evc)).run P w := by
  simp [execOp, ho, resolve, hc, hg, Deferred.ofValue, invoke]

theorem vals_map {E : Env} {evc evc' : Operand → Value} {as : Array Operand} (h : ∀ x ∈ as.toList, VR E (evc x) (evc' x)) : VL E (as.toList.map evc) (as.map evc').toList := by
  rw [Array.toList_map]; exact vals_rel h


theorem keysOk_low {n k : Nat} {us : List (Nat × Option AObj)} {H : Tr AObj} (h : Low n H) (hk : ∀ u ∈ us, u.1 < n + k) : Low (n + k) (applyUs H us) := fun j hj => by
  rw [applyUs_get, upd_out _ _ _ (fun hm => ?_)]
  · exact h j (by omega)
  · obtain ⟨u, hu, e⟩ := List.mem_map.1 hm
    have := hk u hu; omega
theorem keysOk_lt {n k : Nat} {us : List (Nat × Option AObj)} {G : Gh} (h : keysOk n k us G = true) (hG : ∀ j, G j ≠ none → j < n) : ∀ u ∈ us, u.1 < n + k := fun u hu => by
  simp only [keysOk, Bool.and_eq_true] at h
  have := List.all_eq_true.1 h.1.2 u hu
  simp only [Bool.or_eq_true, Bool.and_eq_true] at this
  rcases this with h1 | ⟨h1, h2⟩
  · have := hG u.1 (by intro e; rw [e] at h1; cases h1); omega
  · have := Nat.eq_of_beq_eq_true h1; have := Nat.eq_of_beq_eq_true h2; omega
end
end Go.Proofs.YtgfjmkjhjfmbeaaGreat
