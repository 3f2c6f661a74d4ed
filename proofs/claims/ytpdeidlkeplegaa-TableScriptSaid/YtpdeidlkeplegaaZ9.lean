/- DERIVED. Texts put together: M11, M12, M13. -/
import Derived.RangeFuncLeaves
import Derived.RecoverIn
import Derived.Test.YtpdeidlkeplegaaZ8
set_option maxRecDepth 1000000
set_option maxHeartbeats 32000000
namespace Go.Proofs.Ytpdeidlkeplegaa
open Go.RowKit
def rdF (E : Env) : Option Nat → Fence
 | none => Fence.wide
 | some l => Fence.wide.inRound (E.ρ l)
theorem zKw (E : Env) (rd : Option Nat) (f : FuncId) : (rdF E rd).fn f := by cases rd <;> exact trivial
theorem zJo (E : Env) (rd : Option Nat) : (rdF E rd).depth = none := by cases rd <;> rfl
inductive CR (E : Env) : List (Value × Bool) → List PanicEntry → Prop
 | nil : CR E [] []
 | cons (v : Value) (b : Bool) (p : PanicEntry) (l : List (Value × Bool)) (l' : List PanicEntry) (h : VR E v p.v) (hb : p.recovered = b) (hg : p.goexit = false) (t : CR E l l') : CR E ((v, b) :: l) (p :: l')
theorem CR.ext {E E' : Env} (x : Ext E E') {l : List (Value × Bool)} {l' : List PanicEntry} (h : CR E l l') : CR E' l l' := by
 induction h with
 | nil => exact .nil
 | cons v b p l l' h hb hg t ih => exact .cons v b p l l' (h.ext x) hb hg ih
inductive DR (E : Env) : List ADf → List Deferred → Prop
 | nil : DR E [] []
 | mark (d : Nat) (l : List ADf) (l' : List Deferred) (h : E.dom d) (t : DR E l l') : DR E (.mark d :: l) ({ target := .collected (E.ρ d), args := #[] } :: l')
 | call (f : FuncId) (cap args : List Value) (cap' args' : Array Value) (l : List ADf) (l' : List Deferred) (hc : VL E cap cap'.toList) (ha : VL E args args'.toList) (t : DR E l l') : DR E (.call f cap args :: l) ({ target := .fn (.func f) cap', args := args' } :: l')
theorem DR.ext {E E' : Env} (x : Ext E E') {l : List ADf} {l' : List Deferred} (h : DR E l l') : DR E' l l' := by
 induction h with
 | nil => exact .nil
 | mark d l l' h t ih => rw [← x.ρ d h]; exact .mark d l l' (x.n d h) ih
 | call f cap args cap' args' l l' hc ha t ih => exact .call f cap args cap' args' l l' (hc.ext x) (ha.ext x) ih
def Low (n : Nat) (H : Tr AObj) : Prop := ∀ k, n ≤ k → H.get k = none
theorem Low.lt {n : Nat} {H : Tr AObj} (h : Low n H) {k : Nat} (hk : H.get k ≠ none) : k < n := by
 rcases Nat.lt_or_ge k n with h1 | h1
 ·exact h1
 ·exact absurd (h k h1) hk
theorem Low.set {n : Nat} {H : Tr AObj} (h : Low n H) {k : Nat} (hk : k < n) (x : Option AObj) : Low n (H.set k x) := fun j hj => by
 rw [Tr.get_set_ne _ _ (by omega)]; exact h j hj
theorem Low.new {n : Nat} {H : Tr AObj} (h : Low n H) (x : Option AObj) : Low (n + 1) (H.set n x) := fun j hj => by
 rw [Tr.get_set_ne _ _ (by omega)]; exact h j (by omega)
structure FRm (P : Program) (g0 : Nat) (E0 : Env) (w0 : World) (E : Env) (nt : Nat) (rd : Option Nat) (s : Fs) (a : Act) (w : World) : Prop where
 tr : TR E s.T nt a.tmps
 hr : HR P E s.H.get w
 lw : Low s.n s.H
 stp : Stp E0 E s.wr w0 w
 df : DR E s.df a.defers
 gl : ∀ g, g < g0 → E.dom g ∧ E.ρ g = g ∧ E.sh g = 0
 rd : ∀ l, rd = some l → E.dom l
def Free (E : Env) (a b : Nat) : Prop := ∀ k, a ≤ k → k < b → ¬ E.dom k
def Took (E E' : Env) (a b : Nat) : Prop := ∀ k, E'.dom k ↔ E.dom k ∨ (a ≤ k ∧ k < b)
theorem Took.trans {A B C : Env} {a b c : Nat} (h : Took A B a b) (k : Took B C b c) (h1 : a ≤ b) (h2 : b ≤ c) : Took A C a c := fun i => by
 rw [k i, h i]; constructor
 ·rintro ((h | h) | h)
  ·exact .inl h
  ·exact .inr (by omega)
  ·exact .inr (by omega)
 ·rintro (h | h)
  ·exact .inl (.inl h)
  ·rcases Nat.lt_or_ge i b with h3 | h3
   ·exact .inl (.inr (by omega))
   ·exact .inr (by omega)
theorem Took.refl (E : Env) (a : Nat) : Took E E a a := fun _ => ⟨.inl, fun h => h.resolve_right (by omega)⟩
theorem Free.left {E : Env} {a b c : Nat} (h : Free E a c) (hb : b ≤ c) : Free E a b := fun k h1 h2 => h k h1 (by omega)
theorem Free.right {E E' : Env} {a b c : Nat} (h : Free E a c) (ht : Took E E' a b) (hab : a ≤ b) : Free E' b c := fun k h1 h2 hd => by
 rcases (ht k).1 hd with h3 | h3
 ·exact h k (by omega) h2 h3
 ·omega
structure Grw (n n' : Nat) (H H' : Tr AObj) (wr : List Nat) : Prop where
 le : n ≤ n'
 same : ∀ k, k < n → k ∉ wr → H'.get k = H.get k
 low : Low n H → Low n' H'
theorem Grw.refl (n : Nat) (H : Tr AObj) (wr : List Nat) : Grw n n H H wr := ⟨Nat.le_refl _, fun _ _ _ => rfl, fun h => h⟩
theorem Grw.trans {a b c : Nat} {A B C : Tr AObj} {wr wr' : List Nat} (h : Grw a b A B wr) (k : Grw b c B C wr') (hs : ∀ x ∈ wr, x ∈ wr') : Grw a c A C wr' :=
 ⟨Nat.le_trans h.le k.le, fun i h1 h2 => (k.same i (by have := h.le; omega) h2).trans (h.same i h1 (fun hi => h2 (hs i hi))), fun h0 => k.low (h.low h0)⟩
def exR (E : Env) : Ex → Exit → Prop
 | .normal, .normal => True
 | .exit id, .exit id' => id' = id
 | .goto l, .goto l' => l' = l
 | .ret, .ret => True
 | .pan ch, .panic ch' => CR E ch ch'
 | _, _ => False
def CPost (P : Program) (g0 : Nat) (E0 : Env) (w0 : World) (E : Env) (nt : Nat) (rd : Option Nat) (n : Nat) (x : Ex) (s' : Fs) : Exit → Act → World → Prop := fun e a' w' =>
 ∃ E', Ext E E' ∧ Took E E' n s'.n ∧ FRm P g0 E0 w0 E' nt rd s' a' w' ∧ exR E' x e
def CodeOK (P : Program) (g0 nt : Nat) (rd : Option Nat) (c : Code) (s : Fs) (x : Ex) (s' : Fs) : Prop :=
 (Grw s.n s'.n s.H s'.H s'.wr ∧ ∀ k ∈ s.wr, k ∈ s'.wr) ∧
 ∀ (E0 : Env) (w0 : World) (E : Env) (a : Act) (w : World), FRm P g0 E0 w0 E nt rd s a w → Free E s.n s'.n → c.wpIn (rdF E rd) 0 P (CPost P g0 E0 w0 E nt rd s.n x s') a w
def CallEnd (P : Program) (E : Env) (n : Nat) (w : World) : Res → Ending → World → Prop
 | .ret v H n' wr, e, w' => ∃ E' v', e = .returned v' ∧ VR E' v v' ∧ Ext E E' ∧ Took E E' n n' ∧ HR P E' H.get w' ∧ Stp E E' wr w w'
 | .pan ch H n' wr, e, w' => ∃ E' ch', e = .panicked ch' ∧ CR E' ch ch' ∧ Ext E E' ∧ Took E E' n n' ∧ HR P E' H.get w' ∧ Stp E E' wr w w'
 | _, _, _ => False
def endN : Res → Nat → Nat
 | .ret _ _ n _, _ => n
 | .pan _ _ n _, _ => n
 | _, d => d
def endGrw (n : Nat) (H : Tr AObj) : Res → Prop
 | .ret _ H' n' wr => Grw n n' H H' wr
 | .pan _ H' n' wr => Grw n n' H H' wr
 | _ => False
def CallOK (P : Program) (g0 : Nat) (f : FuncId) (args : List Value) (H : Tr AObj) (n : Nat) (r : Res) : Prop :=
 endGrw n H r ∧ ∀ (E : Env) (w : World) (args' : Array Value), (∀ g, g < g0 → E.dom g ∧ E.ρ g = g ∧ E.sh g = 0) → VL E args args'.toList → HR P E H.get w → Low n H → Free E n (endN r n) →
  CallsIn Fence.wide 0 P f args' w (CallEnd P E n w r)
def zFc (F : Fence) (n : Nat) (P : Program) (c : Code) (Q : Exit → Act → World → Prop) (a : Act) (w : World) : Prop :=
 ∀ (b : Frame) (k : List Item) (cs : List Frame), b.roundOf = F.round → F.fn b.fn → F.room (cs.length + 1 + n) →
  ∃ e a' w', Q e a' w' ∧ ArrivesIn (Machine.fenced P F) P (lone (b.atR a (.code c :: .inLoop c :: k)) cs w) b k cs e a' w'
theorem zBk {F : Fence} {n : Nat} {P : Program} {c : Code} {Q : Exit → Act → World → Prop} {a : Act} {w : World} (h : c.wpIn F n P (Exit.then (zFc F n P c Q) Q) a w) : zFc F n P c Q a w := by
 intro b k cs hro hb hr
 obtain ⟨e, a₁, w₁, hq, harr⟩ := h b (.inLoop c :: k) cs hro hb hr
 cases e with
 | normal =>
  obtain ⟨e₂, a₂, w₂, hq₂, harr₂⟩ := hq b k cs hro hb hr
  exact ⟨e₂, a₂, w₂, hq₂, .of_steps (StepsIn.trans harr (.one (fenced_calm hb hr rfl) stepR_inLoop)) harr₂⟩
 | exit id => exact ⟨_, a₁, w₁, hq, .pass (x := .inLoop c) rfl (fun _ _ => .inl (by simp)) harr⟩
 | goto l => exact ⟨_, a₁, w₁, hq, .pass (x := .inLoop c) rfl (fun _ _ => .inl (by simp)) harr⟩
 | ret => exact ⟨_, a₁, w₁, hq, .pass (x := .inLoop c) rfl (fun _ _ => .inl (by simp)) harr⟩
 | panic ch => exact ⟨_, a₁, w₁, hq, .pass (x := .inLoop c) rfl (fun _ _ => .inl (by simp)) harr⟩
 | outgrown => exact ⟨_, a₁, w₁, hq, .pass (x := .inLoop c) rfl (fun _ _ => .inl (by simp)) harr⟩
theorem zFs {F : Fence} {n : Nat} {P : Program} {c : Code} {Q : Exit → Act → World → Prop} {a : Act} {w : World} (h : zFc F n P c Q a w) : (Code.loop c).wpIn F n P Q a w := by
 intro b k cs hro hb hr
 obtain ⟨e, a', w', hq, harr⟩ := h b k cs hro hb hr
 exact ⟨e, a', w', hq, .of_steps (.one (fenced_calm hb hr rfl) stepR_loop) harr⟩
def LoopOK (P : Program) (g0 nt : Nat) (rd : Option Nat) (c : Code) (s : Fs) (x : Ex) (s' : Fs) : Prop :=
 (Grw s.n s'.n s.H s'.H s'.wr ∧ ∀ k ∈ s.wr, k ∈ s'.wr) ∧
 ∀ (E0 : Env) (w0 : World) (E : Env) (a : Act) (w : World), FRm P g0 E0 w0 E nt rd s a w → Free E s.n s'.n → zFc (rdF E rd) 0 P c (CPost P g0 E0 w0 E nt rd s.n x s') a w
inductive UR (E : Env) : Option (List (Value × Bool)) → FrameMode → Prop
 | none : UR E none .returning
 | some (ch : List (Value × Bool)) (ch' : List PanicEntry) (h : CR E ch ch') : UR E (some ch) (.panicking ch')
theorem UR.ext {E E' : Env} (x : Ext E E') {u : Option (List (Value × Bool))} {u' : FrameMode} (h : UR E u u') : UR E' u u' := by
 cases h with
 | none => exact .none
 | some ch ch' h => exact .some ch ch' (h.ext x)
theorem UR.ne {E : Env} {u : Option (List (Value × Bool))} {u' : FrameMode} (h : UR E u u') : u' ≠ .run := by cases h <;> simp
def zHd : Ending → FrameMode → FrameMode
 | .returned _, u => settle u
 | .panicked ch, u => raised u ch
 | .outgrown, _ => .run
def zMi : Res → Option (List (Value × Bool))
 | .pan ch _ _ _ => some ch
 | _ => none
def DEnd (P : Program) (E : Env) (n : Nat) (w : World) (r : Res) : Ending → FrameMode → World → Prop := fun e u w' =>
 match r with
 | .ret _ H n' wr | .pan _ H n' wr => e ≠ .outgrown ∧ ∃ E', UR E' (zMi r) (zHd e u) ∧ Ext E E' ∧ Took E E' n n' ∧ HR P E' H.get w' ∧ Stp E E' wr w w'
 | _ => False
def DcallOK (P : Program) (g0 : Nat) (f : FuncId) (args : List Value) (u : Option (List (Value × Bool))) (H : Tr AObj) (n : Nat) (r : Res) : Prop :=
 endGrw n H r ∧ ∀ (E : Env) (w : World) (args' : Array Value) (u' : FrameMode), (∀ g, g < g0 → E.dom g ∧ E.ρ g = g ∧ E.sh g = 0) → VL E args args'.toList → UR E u u' → HR P E H.get w → Low n H → Free E n (endN r n) →
  CallsDIn Fence.wide 0 P f args' u' w (DEnd P E n w r)
def TOK (P : Program) (g0 : Nat) (t : Task) (s : Fs) (r : Res) : Prop :=
 match t, r with
 | .code nt rd c, .code x s' => CodeOK P g0 nt rd c s x s'
 | .loop nt rd c, .code x s' => LoopOK P g0 nt rd c s x s'
 | .call f args, .ret v H n wr => CallOK P g0 f args s.H s.n (.ret v H n wr)
 | .call f args, .pan ch H n wr => CallOK P g0 f args s.H s.n (.pan ch H n wr)
 | .dcall f args u, .ret v H n wr => DcallOK P g0 f args u s.H s.n (.ret v H n wr)
 | .dcall f args u, .pan ch H n wr => DcallOK P g0 f args u s.H s.n (.pan ch H n wr)
 | _, _ => True
section
variable {P : Program} {g0 : Nat} {E0 : Env} {w0 : World}
theorem CPost.trans {E E1 : Env} {nt n : Nat} {rd : Option Nat} {s1 s' : Fs} {x : Ex} {e : Exit} {a : Act} {w : World} (hx : Ext E E1) (ht : Took E E1 n s1.n) (h1 : n ≤ s1.n) (h2 : s1.n ≤ s'.n)
  (h : CPost P g0 E0 w0 E1 nt rd s1.n x s' e a w) : CPost P g0 E0 w0 E nt rd n x s' e a w := by
 obtain ⟨E', k1, k2, k3, k4⟩ := h
 exact ⟨E', hx.trans k1, ht.trans k2 h1 h2, k3, k4⟩
theorem zDu {E E1 : Env} (hx : Ext E E1) {rd : Option Nat} (hrd : ∀ l, rd = some l → E.dom l) : rdF E1 rd = rdF E rd := by
 cases rd with
 | none => rfl
 | some l => simp only [rdF, hx.ρ l (hrd l rfl)]
theorem TR.put {E : Env} {T T' : Tr Value} {nt : Nat} {a : Act} {dst : Option Tmp} {v v' : Value} (h : TR E T nt a.tmps) (hv : VR E v v') (hp : putT nt T dst v = some T') : TR E T' nt (a.put dst v').tmps := by
 cases dst with
 | none => simp [putT] at hp; subst hp; exact h
 | some d =>
  simp only [putT] at hp
  cases hd : Nat.blt d nt with
  | false => simp [hd] at hp
  | true =>
   simp [hd] at hp; subst hp
   have hlt : d + 1 ≤ nt := Nat.le_of_ble_eq_true hd
   refine ⟨by simp [Act.put, h.1], fun t => ?_⟩
   simp only [Act.put]
   rw [Tr.get_set]
   by_cases ht : t = d
   ·subst ht
    rw [if_pos rfl]
    simp only [Option.getD_some]
    rw [Array.getD_eq_getD_getElem?, Array.getElem?_setIfInBounds_self_of_lt (by rw [h.1]; exact hlt)]
    exact hv
   ·rw [if_neg ht]
    have := h.2 t
    rw [Array.getD_eq_getD_getElem?] at this ⊢
    rwa [Array.getElem?_setIfInBounds_ne (Ne.symm ht)]
theorem zAm (a : Act) (dst : Option Tmp) (v : Value) : (a.put dst v).defers = a.defers := by cases dst <;> rfl
theorem VR.undef {E : Env} : VR E undef undef := .tuple _ _ .nil
theorem VR.isBool {E : Env} {v v' : Value} (h : VR E v v') (b : Bool) : v' = .bool b ↔ v = .bool b := by
 cases h with
 | any v' h => cases v' <;> first | (cases h; done) | simp
 | deep t p n q f c v' hd => rcases hd.inv with ⟨_, _, _, rfl⟩ | ⟨_, rfl⟩ <;> simp
 | _ => simp
theorem zCq {E : Env} {T : Tr Value} {nt : Nat} {tmps : Array Value} (h : TR E T nt tmps) (ops : Array Oper) (o : Oper) : Region.wanted o (yielded ops tmps) = guardOk ops T o := by
 unfold Region.wanted guardOk
 cases hg : o.guard with
 | none => rfl
 | some jw =>
  obtain ⟨j, want⟩ := jw
  simp only []
  unfold yielded
  cases hd : (ops[j]?).bind (·.dst) with
  | none => rfl
  | some t =>
   simp only [Option.bind_some]
   have ht := h.2 t
   have key : ∀ b, tmps[t]? = some (.bool b) ↔ T.get t = some (.bool b) := by
    intro b
    have hb := ht.isBool b
    constructor
    ·intro e
     have : tmps.getD t undef = .bool b := by rw [Array.getD_eq_getD_getElem?, e]; rfl
     have := hb.1 this
     cases hT : T.get t with
     | none => rw [hT] at this; cases this
     | some v => rw [hT] at this; simp at this; rw [this]
    ·intro e
     rw [e] at hb
     have := hb.2 rfl
     rw [Array.getD_eq_getD_getElem?] at this
     cases hT : tmps[t]? with
     | none => rw [hT] at this; cases this
     | some v => rw [hT] at this; simp at this; rw [this]
   cases hT : T.get t with
   | none =>
    cases hA : tmps[t]? with
    | none => rfl
    | some v =>
     cases v <;> try rfl
     rename_i b
     have := (key b).1 hA
     rw [hT] at this; cases this
   | some u =>
    cases u with
    | bool b => rw [(key b).2 hT]; rfl
    | _ =>
     cases hA : tmps[t]? with
     | none => rfl
     | some v =>
      cases v <;> try rfl
      rename_i b
      have := (key b).1 hA
      rw [hT] at this; cases this
theorem zBg {E : Env} {T : Tr Value} {nt : Nat} {a : Act} (h : TR E T nt a.tmps) (hg : ∀ g, g < g0 → E.dom g ∧ E.ρ g = g ∧ E.sh g = 0) {x : Operand} (hx : okX g0 x = true) : VR E (aev T x) (a.eval x) := by
 cases x with
 | tmp t => exact h.2 t
 | const v => exact zAg 8 hx
 | global g =>
  have hlt : g + 1 ≤ g0 := Nat.le_of_ble_eq_true hx
  have := VR.ptr (E := E) g 0 (hg g hlt).1
  rw [(hg g hlt).2.1, (hg g hlt).2.2] at this
  exact this
 | func f => exact .func _ _ _ _ _ rfl .nil .nil
theorem zBh : ∀ (us : List (Nat × Option AObj)) (H : Tr AObj), (applyUs H us).get = upd us H.get
 | [], _ => rfl
 | (k, x) :: us, H => by
  rw [applyUs, zBh us, upd]
  congr 1
  funext j
  exact Tr.get_set H k j x
theorem zFr : ∀ (us : List (Nat × Option AObj)) (G : Gh) (k : Nat), k ∉ us.map (·.1) → upd us G k = G k
 | [], _, _, _ => rfl
 | (i, x) :: us, G, k, h => by
  simp at h
  rw [upd, zFr us _ k (by simpa using h.2)]
  exact if_neg h.1
theorem zDl {f : FuncId} (h : callable P f = true) : ∃ fn c, P.funcs[f]? = some fn ∧ fn.body = some c ∧ ∀ (args : Array Value) (w : World), (callFunc f args).run P w = .ok (.enter f args) w := by
 unfold callable at h
 cases hf : P.funcs[f]? with
 | none => simp [hf] at h
 | some fn =>
  simp only [hf, Bool.and_eq_true, Bool.not_eq_true'] at h
  obtain ⟨h1, h2⟩ := h
  cases hb : fn.body with
  | none => simp [hb] at h1
  | some c =>
   refine ⟨fn, c, rfl, hb, fun args w => ?_⟩
   have h2' : ¬ fn.name = "runtime.NumGoroutine" := by simpa using h2
   simp [callFunc, hf, h2', hb]
theorem zOx {o : Oper} {c : Call} (h : zCd o = some c) : o.op = .call c ∧ ∀ b, c.callee ≠ .builtin b := by
 unfold zCd at h
 split at h
 ·rename_i c' ho
  split at h
  ·cases h
  ·rename_i hb
   simp at h; subst h
   exact ⟨ho, fun b e => hb b e⟩
 ·cases h
theorem zKe {w : World} {evc : Operand → Value} {o : Oper} {c : Call} {g : Operand} {l : Nat} (ho : o.op = .call c) (hc : c.callee = .value g) (hg : evc g = .func (.yield l) #[] #[]) :
  (execOp evc o).run P w = (Instr.yield l (c.args.map evc)).run P w := by
 simp [execOp, ho, resolve, hc, hg, Deferred.ofValue, invoke]
theorem zIn {E : Env} {evc evc' : Operand → Value} {as : Array Operand} (h : ∀ x ∈ as.toList, VR E (evc x) (evc' x)) : VL E (as.toList.map evc) (as.map evc').toList := by
 rw [Array.toList_map]; exact zIo h
theorem zDa {n k : Nat} {us : List (Nat × Option AObj)} {H : Tr AObj} (h : Low n H) (hk : ∀ u ∈ us, u.1 < n + k) : Low (n + k) (applyUs H us) := fun j hj => by
 rw [zBh, zFr _ _ _ (fun hm => ?_)]
 ·exact h j (by omega)
 ·obtain ⟨u, hu, e⟩ := List.mem_map.1 hm
  have := hk u hu; omega
theorem zEn {n k : Nat} {us : List (Nat × Option AObj)} {G : Gh} (h : keysOk n k us G = true) (hG : ∀ j, G j ≠ none → j < n) : ∀ u ∈ us, u.1 < n + k := fun u hu => by
 simp only [keysOk, Bool.and_eq_true] at h
 have := List.all_eq_true.1 h.1.2 u hu
 simp only [Bool.or_eq_true, Bool.and_eq_true] at this
 rcases this with h1 | ⟨h1, h2⟩
 ·have := hG u.1 (by intro e; rw [e] at h1; cases h1); omega
 ·have := Nat.eq_of_beq_eq_true h1; have := Nat.eq_of_beq_eq_true h2; omega
end
end Go.Proofs.Ytpdeidlkeplegaa
namespace Go.Proofs.Ytpdeidlkeplegaa
open Go.RowKit
theorem zCg (H : Tr AObj) (k : Nat) (x : Option AObj) : (H.set k x).get = gset H.get k x := funext fun j => Tr.get_set H k j x
theorem zIg {P : Program} {E : Env} {G : Gh} {w : World} (h : HR P E G w) {l : Nat} {r : ALoop} (hg : G l = some (.loop r)) (st : LoopState) (pe : Option Code) :
  ∃ R : Loop, w.heap[E.ρ l]? = some (.loop R) ∧ R.state = r.state ∧ R.pending = r.pend ∧ R.params = r.params ∧ R.assign = r.assign ∧ R.body = r.body ∧ TR E r.T r.nt R.tmps ∧ E.dom r.defs ∧ R.defers = E.ρ r.defs ∧
   HR P E (gset G l (some (.loop { r with state := st, pend := pe }))) (w.putObj (E.ρ l) (.loop { R with state := st, pending := pe })) ∧
   Stp E E [l] w (w.putObj (E.ρ l) (.loop { R with state := st, pending := pe })) := by
 obtain ⟨tm, fn, h1, h2, h3⟩ := h.obj l _ hg
 refine ⟨_, h1, rfl, rfl, rfl, rfl, rfl, h2, h3, rfl, ?_⟩
 have hlt : E.ρ l < w.heap.size := (Array.getElem?_eq_some_iff.1 h1).1
 exact h.put hg ⟨rfl, rfl, rfl, by simp⟩ (fun k hk => World.putObj_heap_other hk) ⟨tm, fn, World.putObj_heap_same hlt, h2, h3⟩
section
variable {P : Program} {g0 : Nat} {rec : Task → Fs → Res}
theorem zOd {E : Env} {nt : Nat} : ∀ (ps : List Tmp) (args args' : List Value), VL E args args' → ∀ (T T' : Tr Value) (tm : Array Value), TR E T nt tm → zipSet nt (ps.zip args) T = some T' →
  TR E T' nt ((ps.zip args').foldl (fun tmps (x : Tmp × Value) => tmps.setIfInBounds x.1 x.2) tm)
 | [], _, _, _, T, T', tm, h, hz => by simp [zipSet] at hz; subst hz; exact h
 | p :: ps, _, _, .nil, T, T', tm, h, hz => by simp [zipSet] at hz; subst hz; exact h
 | p :: ps, _, _, .cons v v' l l' hv ht, T, T', tm, h, hz => by
  simp only [List.zip_cons_cons, zipSet] at hz
  cases hp : Nat.blt p nt with
  | false => simp [hp] at hz
  | true =>
   simp only [hp, cond_true] at hz
   simp only [List.zip_cons_cons, List.foldl_cons]
   refine zOd ps l l' ht _ _ _ ?_ hz
   have := TR.put (a := { tmps := tm, defers := [] }) (dst := some p) (T' := T.set p (some v)) h hv (by simp [putT, hp])
   exact this
theorem zOs {E E2 : Env} {w w3 : World} {a3 : Act} {n nt l : Nat} {s2 : Fs} {r2 : ALoop} {rd : Option Nat} (hf : FRm P g0 E w E2 nt rd s2 a3 w3) (hl : s2.H.get l = some (.loop r2)) (hx : Ext E E2) (hd : E.dom l) (ht : Took E E2 n s2.n) (jump : Option Code) (st : LoopState) (hst : st = if jump.isNone then .ready else .done) :
  ∃ w4, (Instr.endRound (E.ρ l) jump).run P w3 = .ok (.bool jump.isNone) w4 ∧
   CallEnd P E n w (.ret (.bool jump.isNone) (s2.H.set l (some (.loop { r2 with state := st, pend := jump }))) s2.n (l :: s2.wr)) (.returned (.bool jump.isNone)) w4 := by
 obtain ⟨R, q1, q2, q3, q4, q5, q6, q7, q8, q9, k1, k2⟩ := zIg hf.hr hl st jump
 have e := hx.ρ l hd
 rw [e] at q1 k1 k2
 refine ⟨_, run_endRound jump q1, E2, .bool _, rfl, .bool _, hx, ht, ?_, ?_⟩
 ·rw [zCg, ← hst]; exact k1
 ·rw [← hst]; exact hf.stp.trans k2
theorem zSa (hrec : ∀ t s, TOK P g0 t s (rec t s)) {l : Nat} {args : List Value} {H : Tr AObj} {n : Nat} {v : Value} {H' : Tr AObj} {n' : Nat} {wr : List Nat} (hr : zLx rec l args H n = .ret v H' n' wr) :
  Grw n n' H H' wr ∧ ∀ (E : Env) (w : World) (args' : Array Value), (∀ g, g < g0 → E.dom g ∧ E.ρ g = g ∧ E.sh g = 0) → VL E args args'.toList → HR P E H.get w → Low n H → Free E n n' →
   ∃ fn tmps assign body, (Instr.yield (E.ρ l) args').run P w = .ok (.round (E.ρ l) fn tmps assign body) w ∧ ∀ rd, RoundIn (rdF E rd) 0 P (E.ρ l) fn tmps assign body w (CallEnd P E n w (.ret v H' n' wr)) := by
 unfold zLx at hr
 rcases hl : H.get l with _ | ob
 ·simp [hl] at hr
 cases ob with
 | loop r =>
  simp only [hl] at hr
  cases hlen : args.length.beq r.params.size with
  | false => simp [hlen] at hr
  | true =>
   simp only [hlen, cond_true] at hr
   cases hz : zipSet r.nt (r.params.toList.zip args) r.T with
   | none => simp [hz] at hr
   | some T =>
    simp only [hz] at hr
    have h1 := hrec (.code r.nt (some l) r.assign) ⟨T, H, n, [], []⟩
    cases hs1 : rec (.code r.nt (some l) r.assign) ⟨T, H, n, [], []⟩ with
    | bad m tr => simp [hs1] at hr
    | ret _ _ _ _ => simp [hs1] at hr
    | pan _ _ _ _ => simp [hs1] at hr
    | code x1 s1 =>
     rw [hs1] at h1
     cases x1 <;> try (simp [hs1] at hr; done)
     simp only [hs1] at hr
     obtain ⟨⟨g1, g1'⟩, h1⟩ := h1
     rcases hl1 : s1.H.get l with _ | ob1
     ·simp [hl1] at hr
     cases ob1 with
     | loop r1 =>
      simp only [hl1] at hr
      cases hst : r1.state <;> try (simp [hst] at hr; done)
      simp only [hst] at hr
      obtain ⟨s1b, es1b⟩ : ∃ s1b : Fs, { s1 with H := s1.H.set l (some (.loop { r1 with state := .busy })), wr := l :: s1.wr } = s1b := ⟨_, rfl⟩
      rw [es1b] at hr
      have h2 := hrec (.code r.nt (some l) r.body) s1b
      cases hs2 : rec (.code r.nt (some l) r.body) s1b with
      | bad m tr => simp [hs2] at hr
      | ret _ _ _ _ => simp [hs2] at hr
      | pan _ _ _ _ => simp [hs2] at hr
      | code x s2 =>
       rw [hs2] at h2
       simp only [hs2] at hr
       obtain ⟨⟨g2, g2'⟩, h2⟩ := h2
       rcases hl2 : s2.H.get l with _ | ob2
       ·simp [hl2] at hr
       cases ob2 with
       | loop r2 =>
        simp only [hl2] at hr
        cases hdf : s2.df with
        | cons _ _ => simp [hdf] at hr
        | nil =>
         simp only [hdf] at hr
         have hn1 : s1b.n = s1.n := by rw [← es1b]
         have hw1 : s1b.wr = l :: s1.wr := by rw [← es1b]
         have hH1 : s1b.H = s1.H.set l (some (.loop { r1 with state := .busy })) := by rw [← es1b]
         have out : ∃ (jump : Option Code) (st : LoopState), st = (if jump.isNone then .ready else .done) ∧ Res.ret v H' n' wr = .ret (.bool jump.isNone) (s2.H.set l (some (.loop { r2 with state := st, pend := jump }))) s2.n (l :: s2.wr) ∧
           (∀ ch, x ≠ .pan ch) ∧ (x = .normal → jump = none) ∧ (x = .ret → jump = some .ret) ∧ (∀ id, x = .exit id → jump = some (.exit id)) ∧ (∀ t, x = .goto t → jump = some (.goto t)) := by
          cases x with
          | normal => exact ⟨none, .ready, rfl, hr.symm, by simp, by simp, by simp, by simp, by simp⟩
          | ret => exact ⟨some .ret, .done, rfl, hr.symm, by simp, by simp, by simp, by simp, by simp⟩
          | exit id => exact ⟨some (.exit id), .done, rfl, hr.symm, by simp, by simp, by simp, by simp, by simp⟩
          | goto t => exact ⟨some (.goto t), .done, rfl, hr.symm, by simp, by simp, by simp, by simp, by simp⟩
          | pan ch => simp at hr
         obtain ⟨jump, st, hst', hres, x0, x1, x2, x3, x4⟩ := out
         rw [hres]
         simp only [Res.ret.injEq] at hres
         obtain ⟨rfl, rfl, rfl, rfl⟩ := hres
         refine ⟨⟨Nat.le_trans g1.le (by rw [← hn1]; exact g2.le), fun k hk hkw => ?_, fun h0 => ?_⟩, fun E w args' hgl hva hH hlow hfree => ?_⟩
         ·simp at hkw
          rw [Tr.get_set_ne _ _ hkw.1, g2.same k (by rw [hn1]; have := g1.le; simp at this; omega) hkw.2, hH1, Tr.get_set_ne _ _ hkw.1]
          exact g1.same k hk (fun hk1 => hkw.2 (g2' k (by rw [hw1]; simp [hk1])))
         ·have l1 := g1.low h0
          have l2 : Low s1b.n s1b.H := by rw [hn1, hH1]; exact l1.set (l1.lt (by rw [hl1]; simp)) _
          have l3 := g2.low l2
          exact l3.set (l3.lt (by rw [hl2]; simp)) _
         ·have hd : E.dom l := hH.live (by rw [hl]; simp)
          obtain ⟨R, q1, q2, q3, q4, q5, q6, q7, q8, q9, _, _⟩ := zIg hH hl .busy none
          have hsz : args'.size = R.params.size := by
           rw [q4]; have := hva.length; have e := Nat.eq_of_beq_eq_true hlen; simp at this; omega
          refine ⟨_, _, _, _, run_yield q1 hsz, fun rd => ?_⟩
          have hF : (rdF E rd).inRound (E.ρ l) = rdF E (some l) := by cases rd <;> rfl
          have hle1 : n ≤ s1.n := g1.le
          have hle2 : s1.n ≤ s2.n := by rw [← hn1]; exact g2.le
          refine roundIn_of_wpIn (zKw E rd _) ?_
          rw [hF, q5, q6]
          have hT : TR E T r.nt ((R.params.zip args').foldl (fun tmps (x : Tmp × Value) => tmps.setIfInBounds x.1 x.2) R.tmps) := by
           have := zOd r.params.toList args args'.toList hva _ _ _ q7 hz
           rw [q4, ← Array.foldl_toList, Array.toList_zip]
           exact this
          have hfr : FRm P g0 E w E r.nt (some l) ⟨T, H, n, [], []⟩ { tmps := (R.params.zip args').foldl (fun tmps (x : Tmp × Value) => tmps.setIfInBounds x.1 x.2) R.tmps, defers := [] } w :=
           ⟨hT, hH, hlow, .refl E w, .nil, hgl, fun k e => by cases e; exact hd⟩
          refine wpIn_mono (h1 E w E _ w hfr (Free.left hfree hle2)) (fun e a1 w1 hp => ?_)
          obtain ⟨E1, ex1, tk1, fr1, xr1⟩ := hp
          cases e <;> try (exact False.elim xr1)
          show ∃ w₂, _ ∧ _
          obtain ⟨R1, p1, p2, p3, p4, p5, p6, p7, p8, p9, k1, k2⟩ := zIg fr1.hr hl1 .busy r1.pend
          have e1 := ex1.ρ l hd
          have hrf : rdF E (some l) = rdF E1 (some l) := by simp [rdF, e1]
          have hpe : ({ R1 with state := .busy, pending := r1.pend } : Loop) = { R1 with state := .busy } := by rw [← p3]
          rw [hpe] at k1 k2
          refine ⟨_, by rw [← e1]; exact run_beginRound p1 (by rw [p2, hst]), ?_⟩
          have hpost : ∀ e a' w', CPost P g0 E w E1 r.nt (some l) s1b.n x s2 e a' w' → roundPost P (E.ρ l) (CallEnd P E n w (.ret (.bool jump.isNone) (s2.H.set l (some (.loop { r2 with state := st, pend := jump }))) s2.n (l :: s2.wr))) e a' w' := by
           rintro e a' w' ⟨E2, ex2, tk2, fr2, xr2⟩
           rw [hn1] at tk2
           obtain ⟨w4, m1, m2⟩ := zOs fr2 hl2 (ex1.trans ex2) hd (tk1.trans tk2 hle1 hle2) jump st hst'
           cases x with
           | normal =>
                 cases e <;> try (exact False.elim xr2)
                 ·(have := x1 rfl; subst this; exact ⟨_, w4, m1, m2⟩)
           | ret =>
                 cases e <;> try (exact False.elim xr2)
                 ·(have := x2 rfl; subst this; exact ⟨_, w4, m1, m2⟩)
           | exit id =>
                 cases e <;> try (exact False.elim xr2)
                 ·(have := x3 id rfl; subst this; cases xr2; exact ⟨_, w4, m1, m2⟩)
           | goto t =>
                 cases e <;> try (exact False.elim xr2)
                 ·(have := x4 t rfl; subst this; cases xr2; exact ⟨_, w4, m1, m2⟩)
           | pan ch => exact absurd rfl (x0 ch)
          rw [hrf]
          refine wpIn_mono (h2 E w E1 a1 (w1.putObj (E1.ρ l) (.loop { R1 with state := .busy })) ?_ ?_) hpost
          ·refine ⟨?_, ?_, ?_, ?_, ?_, fr1.gl, fr1.rd⟩
           ·rw [← es1b]; exact fr1.tr
           ·rw [hH1, zCg]; exact k1
           ·rw [hn1, hH1]; exact fr1.lw.set (fr1.lw.lt (by rw [hl1]; simp)) _
           ·rw [hw1]; exact fr1.stp.trans k2
           ·rw [← es1b]; exact fr1.df
          ·rw [hn1]; exact Free.right hfree tk1 hle1
       | _ => simp [hl2] at hr
     | _ => simp [hl1] at hr
 | _ => simp [hl] at hr
end
end Go.Proofs.Ytpdeidlkeplegaa
namespace Go.Proofs.Ytpdeidlkeplegaa
open Go.RowKit
section
variable {P : Program} {g0 : Nat} {rec : Task → Fs → Res}
theorem zAn {E : Env} {rd : Option Nat} {o : Oper} {a : Act} {w : World} {K : Act → World → Prop} {Q : Exit → Act → World → Prop} {r : Result Next} (hd : ∀ c, o.op ≠ .defer c) (hr : (execOp a.eval o).run P w = r) (h : o.uponIn (rdF E rd) 0 P a K Q r) :
  o.wpIn (rdF E rd) 0 P a w K Q := by
 refine ⟨fun f _ => zKw E rd f, ?_⟩
 rw [Oper.semAt_eq _ _ _ hd, hr]; exact h
theorem zKo {E : Env} {rd : Option Nat} {f : FuncId} {args : Array Value} {w : World} {R : Ending → World → Prop} (h : CallsIn Fence.wide 0 P f args w R) : CallsIn (rdF E rd) 0 P f args w R := by
 cases rd with
 | none => exact h
 | some l => exact h
def Onward (K : Act → World → Prop) (Q : Exit → Act → World → Prop) (o : Oper) (a : Act) : Ending → World → Prop
 | .returned v, w => K (a.put o.dst v) w
 | .panicked ch, w => Q (.panic ch) a w
 | .outgrown, _ => False
theorem Stp.own {n n' : Nat} {E E' : Env} {wr : List Nat} {w w' : World} (hfree : Free E n n') (hs : Stp E E' wr w w') : Stp E E' (own n n' wr) w w' := by
 refine hs.sub (fun y hy hd => List.mem_filter.2 ⟨hy, ?_⟩)
 cases h1 : (n.ble y && Nat.blt y n') with
 | false => rfl
 | true =>
  simp only [Bool.and_eq_true] at h1
  have h2 : n ≤ y := Nat.le_of_ble_eq_true h1.1
  have h3 : y + 1 ≤ n' := Nat.le_of_ble_eq_true h1.2
  exact absurd hd (hfree y h2 (by omega))
theorem Grw.own {n n' : Nat} {H H' : Tr AObj} {wr : List Nat} (g : Grw n n' H H' wr) : Grw n n' H H' (own n n' wr) := by
 refine ⟨g.le, fun k hk hkw => g.same k hk fun h => hkw (List.mem_filter.2 ⟨h, ?_⟩), g.low⟩
 have : n.ble k = false := by cases hb : n.ble k; rfl; exact absurd (Nat.le_of_ble_eq_true hb) (by omega)
 simp [this]
theorem zPf {E : Env} {args : List Value} {args' : Array Value} (ha : plainL args = true) (h : VL E args args'.toList) : args' = args.toArray := by
 have h1 : VR E (.agg args.toArray) (.agg args') := .agg _ _ h
 have h2 := zBw 9 (by simpa [plainV, plainL] using ha) h1
 simpa using h2
theorem zNu {w : World} {evc : Operand → Value} {o : Oper} {c : Call} {g : Operand} {f : FuncId} {first cap : Array Value} (ho : o.op = .call c) (hc : c.callee = .value g) (hg : evc g = .func (.func f) first cap) :
  (execOp evc o).run P w = (callFunc f (first ++ c.args.map evc ++ cap)).run P w := by
 simp [execOp, ho, resolve, hc, hg, Deferred.ofValue, invoke]
theorem zMk {t : TypeId} {name : String} {f : FuncId} (h : zJl P t name = some f) (k : Nat) (v : Value) (w : World) : (method (k + 1) t v name).run P w = .ok (f, v) w := by
 unfold zJl at h
 cases hi : P.info? t with
 | none => simp [hi] at h
 | some i =>
  simp only [hi] at h
  cases hm : i.methods.find? (·.name == name) with
  | none => simp [hm] at h
  | some m =>
   simp only [hm] at h
   cases hp : m.path.isEmpty with
   | false => simp [hp] at h
   | true =>
    simp only [hp, cond_true] at h
    have hpl : m.path.toList = [] := by simpa [Array.isEmpty] using hp
    split at h
    ·rename_i f' te hf hu
     cases h
     simp [method, typeInfo, hi, hm, hpl, follow, hf, receiverAt, run_underlying hu, Place.get]
    ·rename_i f' fs hf hu
     cases h
     simp [method, typeInfo, hi, hm, hpl, follow, hf, receiverAt, run_underlying hu, Place.get]
    ·cases h
theorem zMx {E : Env} {T : Tr Value} {a : Act} {o : Oper} {c : Call} {f : FuncId} {args : List Value} (hop : o.op = .call c) (hcl : callTo P (aev T) c = .fn f args) (hT : ∀ x ∈ o.op.operands, VR E (aev T x) (a.eval x)) :
  ∃ args' : Array Value, VL E args args'.toList ∧ ∀ w, (execOp a.eval o).run P w = (callFunc f args').run P w := by
 unfold callTo at hcl
 split at hcl
 ·rename_i g hcg
  split at hcl
  ·rename_i f' first cap hev
   simp only [CallTo.fn.injEq] at hcl
   obtain ⟨rfl, rfl⟩ := hcl
   have hvg := hT g (by rw [hop]; simp [Op.operands, Call.operands, hcg])
   rw [hev] at hvg
   obtain ⟨first', cap', he', hf1, hf2⟩ : ∃ first' cap', a.eval g = .func (.func f') first' cap' ∧ VL E first.toList first'.toList ∧ VL E cap.toList cap'.toList := by
    cases hv' : a.eval g <;> rw [hv'] at hvg <;> cases hvg
    exact ⟨_, _, rfl, ‹_›, ‹_›⟩
   refine ⟨first' ++ c.args.map a.eval ++ cap', ?_, fun w => zNu hop hcg he'⟩
   simp only [Array.toList_append]
   refine (hf1.append (zIn fun x hx => hT x ?_)).append hf2
   rw [hop]; simp [Op.operands, Call.operands]; exact .inr (by simpa using hx)
  ·cases hcl
  ·cases hcl
 ·rename_i x name hcg
  split at hcl
  ·rename_i t v hev
   split at hcl
   ·rename_i f' hm
    simp only [CallTo.fn.injEq] at hcl
    obtain ⟨rfl, rfl⟩ := hcl
    have hvg := hT x (by rw [hop]; simp [Op.operands, Call.operands, hcg])
    rw [hev] at hvg
    obtain ⟨v', he', hv⟩ : ∃ v', a.eval x = .iface t v' ∧ VR E v v' := by
     cases hv' : a.eval x <;> rw [hv'] at hvg <;> cases hvg
     exact ⟨_, rfl, ‹_›⟩
    refine ⟨#[v'] ++ c.args.map a.eval, ?_, fun w => ?_⟩
    ·simp only [Array.toList_append]
     refine .cons _ _ _ _ hv (zIn fun x hx => hT x ?_)
     rw [hop]; simp [Op.operands, Call.operands]; exact .inr (by simpa using hx)
    ·have hd : 0 < Made.depth := by decide
     have hk : ∃ k, P.types.size + Made.depth = k + 1 := ⟨P.types.size + Made.depth - 1, by omega⟩
     obtain ⟨k, hk⟩ := hk
     have hx : ∀ (u : Value) (l : Array Value), (#[u] ++ l).extract 1 (#[u] ++ l).size = l := fun u l => by
      apply Array.ext'
      simp
     have h0 : ∀ (u : Value) (l : Array Value), (#[u] ++ l)[0]? = some u := fun u l => by simp [Array.getElem?_append]
     have h2 : ∀ (l : Array Value), l.extract 0 l.size = l := fun l => by simp
     have h3 : (execOp a.eval o).run P w = (callMethod (.iface t v') name (c.args.map a.eval)).run P w := by
      have hx' := hx (.iface t v') (c.args.map a.eval)
      have h0' := h0 (.iface t v') (c.args.map a.eval)
      simp only [execOp, hop, resolve, hcg, he', invoke, Sem.run_bind, Sem.run_pure, Result.andThen_ok]
      simp only [h0', hx']
     rw [h3]
     simp [callMethod, hk, zMk hm]
   ·cases hcl
  ·cases hcl
 ·cases hcl
theorem zOq (hrec : ∀ t s, TOK P g0 t s (rec t s)) {o : Oper} {c : Call} (hc : zCd o = some c) (hok : okOps g0 o = true) {T : Tr Value} {H : Tr AObj} {n : Nat} {r : Res} (hr : zFk P rec (callTo P (aev T) c) H n = r)
  (hgood : ∀ m tr, r ≠ .bad m tr) (hgood2 : ∀ x s, r ≠ .code x s) : endGrw n H r ∧ ∀ (E : Env) (w : World) (a : Act) (rd : Option Nat) (K : Act → World → Prop) (Q : Exit → Act → World → Prop), (∀ x ∈ o.op.operands, VR E (aev T x) (a.eval x)) → (∀ g, g < g0 → E.dom g ∧ E.ρ g = g ∧ E.sh g = 0) → HR P E H.get w → Low n H → Free E n (endN r n) →
   (∀ e w', CallEnd P E n w r e w' → Onward K Q o a e w') → o.wpIn (rdF E rd) 0 P a w K Q := by
 obtain ⟨hop, hnb⟩ := zOx hc
 have hdef : ∀ c', o.op ≠ .defer c' := fun c' e => by rw [hop] at e; cases e
 have hopx : ∀ x ∈ o.op.operands, okX g0 x = true := fun x hx => List.all_eq_true.1 hok x (by simpa using hx)
 unfold zFk at hr
 cases hcl : callTo P (aev T) c with
 | no => rw [hcl] at hr; exact absurd hr.symm (hgood _ _)
 | fn f args =>
  rw [hcl] at hr
  simp only [] at hr
  cases hca : callable P f with
  | false =>
   rw [hca] at hr
   simp only [cond_false] at hr
   unfold evExt at hr
   cases hpl : plainL args with
   | false => rw [hpl] at hr; exact absurd hr.symm (hgood _ _)
   | true =>
   rw [hpl] at hr
   simp only [cond_true] at hr
   split at hr
   case h_2 => exact absurd hr.symm (hgood _ _)
   rename_i v hpr
   cases hpv : plainV 8 v with
   | false => rw [hpv] at hr; exact absurd hr.symm (hgood _ _)
   | true =>
   rw [hpv] at hr
   simp only [cond_true] at hr
   subst hr
   refine ⟨Grw.refl _ _ _, fun E w a rd K Q hT hgl hH hlow hfree hgo => ?_⟩
   obtain ⟨args', hargs, hrunE⟩ := zMx hop hcl hT
   have hrun : (execOp a.eval o).run P w = .ok (.value v) w := by
    rw [hrunE w, zPf hpl hargs]
    exact zGn hpr w
   refine zAn hdef hrun ?_
   rw [Oper.uponIn_value]
   exact hgo (.returned v) w ⟨E, v, rfl, zAg 8 hpv, .refl E, .refl E _, hH, .refl E w⟩
  | true =>
   rw [hca] at hr
   simp only [cond_true] at hr
   obtain ⟨_, _, _, _, hrun⟩ := zDl hca
   have ht := hrec (.call f args) ⟨.e, H, n, [], []⟩
   rw [hr] at ht
   have ht : CallOK P g0 f args H n r := by
    cases r with
    | bad m tr => exact absurd rfl (hgood m tr)
    | code x s => exact absurd rfl (hgood2 x s)
    | ret v H' n' wr => exact ht
    | pan ch H' n' wr => exact ht
   refine ⟨ht.1, fun E w a rd K Q hT hgl hH hlow hfree hgo => ?_⟩
   obtain ⟨args', hargs, hrunE⟩ := zMx hop hcl hT
   refine zAn hdef ((hrunE w).trans (hrun args' w)) ?_
   rw [Oper.uponIn_enter]
   refine ⟨(fun h => by rw [zJo] at h; cases h), zKo ((ht.2 E w _ hgl hargs hH hlow hfree).mono fun e w' he => ?_)⟩
   have := hgo e w' he
   cases e with
   | returned v => exact this
   | panicked ch => exact this
   | outgrown => exact this.elim
 | yield l args =>
  rw [hcl] at hr
  simp only [] at hr
  cases hr1 : zLx rec l args H n with
  | bad m tr => rw [hr1] at hr; exact absurd hr.symm (hgood _ _)
  | code x s => rw [hr1] at hr; exact absurd hr.symm (hgood _ _)
  | pan ch H' n' wr => rw [hr1] at hr; exact absurd hr.symm (hgood _ _)
  | ret v H' n' wr =>
   rw [hr1] at hr
   simp only [] at hr
   subst hr
   obtain ⟨hg, hround⟩ := zSa hrec hr1
   refine ⟨hg.own, fun E w a rd K Q hT hgl hH hlow hfree hgo => ?_⟩
   unfold callTo at hcl
   split at hcl
   ·rename_i g hcg
    split at hcl
    ·cases hcl
    ·rename_i l' x1 x2 hev
     simp only [CallTo.yield.injEq] at hcl
     obtain ⟨rfl, rfl⟩ := hcl
     have hvg := hT g (by rw [hop]; simp [Op.operands, Call.operands, hcg])
     rw [hev] at hvg
     have he' : a.eval g = .func (.yield (E.ρ l')) #[] #[] := by
      cases hv' : a.eval g <;> rw [hv'] at hvg <;> cases hvg
      ·rename_i hp _ _; simp [plainFn] at hp
      ·rfl
     obtain ⟨fn, tmps, assign, body, hy, hR⟩ := hround E w (c.args.map a.eval) hgl (zIn fun x hx => hT x (by rw [hop]; simp [Op.operands, Call.operands]; exact .inr (by simpa using hx))) hH hlow hfree
     refine zAn hdef ((zKe hop hcg he').trans hy) ?_
     rw [Oper.uponIn_round]
     refine ⟨(fun h => by rw [zJo] at h; cases h), (hR rd).mono fun e w' he => ?_⟩
     obtain ⟨E', v', c1, c2, c3, c4, c5, c6⟩ := he
     have := hgo e w' ⟨E', v', c1, c2, c3, c4, c5, c6.own hfree⟩
     cases e with
     | returned v => exact this
     | panicked ch => exact this
     | outgrown => exact this.elim
    ·cases hcl
   ·split at hcl
    ·split at hcl <;> cases hcl
    ·cases hcl
   ·cases hcl
theorem zIb {E : Env} {o : Oper} {a : Act} {w : World} {K : Act → World → Prop} {Q : Exit → Act → World → Prop} {r : Result Next} (hr : (execOp a.eval o).run P w = r) (h : o.uponIn (rdF E none) 0 P a K Q r) :
  o.wpIn (rdF E none) 0 P a w K Q := by
 refine ⟨fun f _ => zKw E none f, ?_⟩
 show o.uponIn _ 0 P a K Q ((o.semAt none a.eval).run P w)
 rw [Oper.semAt_none, hr]; exact h
theorem run_defer {w : World} {evc : Operand → Value} {o : Oper} {c : Call} {g : Operand} {f : FuncId} {first cap : Array Value} (ho : o.op = .defer c) (hc : c.callee = .value g) (hg : evc g = .func (.func f) first cap) :
  (execOp evc o).run P w = .ok (.defer { target := .fn (.func f) cap, args := first ++ c.args.map evc }) w := by
 simp [execOp, ho, resolve, hc, hg, Deferred.ofValue]
theorem zRy {nt : Nat} {rd : Option Nat} {o : Oper} {s s1 : Fs} {x : Ex} (hok : okOps g0 o = true) (hr : zIu nt rd o s = .code x s1) :
  (Grw s.n s1.n s.H s1.H s1.wr ∧ ∀ k ∈ s.wr, k ∈ s1.wr) ∧
  ∀ (E0 : Env) (w0 : World) (E : Env) (a : Act) (w : World) (K : Act → World → Prop) (Q : Exit → Act → World → Prop), FRm P g0 E0 w0 E nt rd s a w → Free E s.n s1.n →
   (∀ E1 a1 w1, x = .normal → Ext E E1 → Took E E1 s.n s1.n → FRm P g0 E0 w0 E1 nt rd s1 a1 w1 → K a1 w1) → o.wpIn (rdF E rd) 0 P a w K Q := by
 have hopx : ∀ x ∈ o.op.operands, okX g0 x = true := fun x hx => List.all_eq_true.1 hok x (by simpa using hx)
 unfold zIu at hr
 cases rd with
 | some l => simp at hr
 | none =>
  simp only [] at hr
  split at hr
  ·rename_i c hop
   split at hr
   ·rename_i g hcg
    split at hr
    ·rename_i f first cap hev
     cases hp : putT nt s.T o.dst undef with
     | none => simp [hp] at hr
     | some T' =>
      simp only [hp, Res.code.injEq] at hr
      obtain ⟨rfl, rfl⟩ := hr
      refine ⟨⟨Grw.refl _ _ _, fun k hk => hk⟩, fun E0 w0 E a w K Q hf hfree hK => ?_⟩
      have hT : ∀ x ∈ o.op.operands, VR E (aev s.T x) (a.eval x) := fun x hx => zBg hf.tr hf.gl (hopx x hx)
      have hvg := hT g (by rw [hop]; simp [Op.operands, Call.operands, hcg])
      rw [hev] at hvg
      obtain ⟨first', cap', he', hf1, hf2⟩ : ∃ first' cap', a.eval g = .func (.func f) first' cap' ∧ VL E first.toList first'.toList ∧ VL E cap.toList cap'.toList := by
       cases hv' : a.eval g <;> rw [hv'] at hvg <;> cases hvg
       exact ⟨_, _, rfl, ‹_›, ‹_›⟩
      refine zIb (run_defer hop hcg he') ?_
      rw [Oper.uponIn_defer]
      refine hK E _ w rfl (.refl E) (.refl E _) ⟨?_, hf.hr, hf.lw, hf.stp, ?_, hf.gl, fun l e => by cases e⟩
      ·exact TR.put (a := { a with defers := _ }) hf.tr VR.undef hp
      ·rw [zAm]
       refine .call f _ _ _ _ _ _ hf2 ?_ hf.df
       simp only [Array.toList_append]
       exact hf1.append (zIn fun x hx => hT x (by rw [hop]; simp [Op.operands, Call.operands]; exact .inr (by simpa using hx)))
    ·cases hr
   ·cases hr
  ·cases hr
theorem evOp_ok (hrec : ∀ t s, TOK P g0 t s (rec t s)) {nt : Nat} {rd : Option Nat} {o : Oper} {s s1 : Fs} {x : Ex} (hr : evOp P g0 rec nt rd o s = .code x s1) :
  (Grw s.n s1.n s.H s1.H s1.wr ∧ ∀ k ∈ s.wr, k ∈ s1.wr) ∧
  ∀ (E0 : Env) (w0 : World) (E : Env) (a : Act) (w : World) (K : Act → World → Prop) (Q : Exit → Act → World → Prop), FRm P g0 E0 w0 E nt rd s a w → Free E s.n s1.n →
   (∀ E1 a1 w1, x = .normal → Ext E E1 → Took E E1 s.n s1.n → FRm P g0 E0 w0 E1 nt rd s1 a1 w1 → K a1 w1) →
   (∀ E1 ch ch' w1, x = .pan ch → Ext E E1 → Took E E1 s.n s1.n → FRm P g0 E0 w0 E1 nt rd s1 a w1 → CR E1 ch ch' → Q (.panic ch') a w1) → o.wpIn (rdF E rd) 0 P a w K Q := by
 unfold evOp at hr
 cases hok : okOps g0 o with
 | false => simp [hok] at hr
 | true =>
  simp only [hok, cond_true] at hr
  cases hc : zCd o with
  | some c =>
   simp only [hc] at hr
   cases hcall : zFk P rec (callTo P (aev s.T) c) s.H s.n with
   | bad m tr => simp [hcall] at hr
   | code x s => simp [hcall] at hr
   | ret v H' n' wr =>
    simp only [hcall] at hr
    cases hp : putT nt s.T o.dst v with
    | none => simp [hp] at hr
    | some T' =>
     simp only [hp, Res.code.injEq] at hr
     obtain ⟨rfl, rfl⟩ := hr
     obtain ⟨hg, hwp⟩ := zOq hrec hc hok hcall (by simp) (by simp)
     refine ⟨⟨⟨hg.le, fun k hk hkw => hg.same k hk (fun h => hkw (by simp [h])), hg.low⟩, fun k hk => by simp [hk]⟩, fun E0 w0 E a w K Q hf hfree hK hQ => ?_⟩
     refine hwp E w a rd K Q (fun x hx => zBg hf.tr hf.gl (List.all_eq_true.1 hok x (by simpa using hx))) hf.gl hf.hr hf.lw hfree (fun e w' he => ?_)
     obtain ⟨E1, v', rfl, hv, hx, ht, hH, hs⟩ := he
     exact hK E1 _ w' rfl hx ht ⟨(hf.tr.ext hx).put hv hp, hH, hg.low hf.lw, hf.stp.trans hs, by rw [zAm]; exact hf.df.ext hx, fun g hg => ⟨hx.n g (hf.gl g hg).1, by rw [hx.ρ g (hf.gl g hg).1, hx.sh g (hf.gl g hg).1]; exact (hf.gl g hg).2⟩, fun l hl => hx.n l (hf.rd l hl)⟩
   | pan ch H' n' wr =>
    simp only [hcall, Res.code.injEq] at hr
    obtain ⟨rfl, rfl⟩ := hr
    obtain ⟨hg, hwp⟩ := zOq hrec hc hok hcall (by simp) (by simp)
    refine ⟨⟨⟨hg.le, fun k hk hkw => hg.same k hk (fun h => hkw (by simp [h])), hg.low⟩, fun k hk => by simp [hk]⟩, fun E0 w0 E a w K Q hf hfree hK hQ => ?_⟩
    refine hwp E w a rd K Q (fun x hx => zBg hf.tr hf.gl (List.all_eq_true.1 hok x (by simpa using hx))) hf.gl hf.hr hf.lw hfree (fun e w' he => ?_)
    obtain ⟨E1, ch', rfl, hv, hx, ht, hH, hs⟩ := he
    exact hQ E1 ch ch' w' rfl hx ht ⟨hf.tr.ext hx, hH, hg.low hf.lw, hf.stp.trans hs, hf.df.ext hx, fun g hg => ⟨hx.n g (hf.gl g hg).1, by rw [hx.ρ g (hf.gl g hg).1, hx.sh g (hf.gl g hg).1]; exact (hf.gl g hg).2⟩, fun l hl => hx.n l (hf.rd l hl)⟩ hv
  | none =>
   simp only [hc] at hr
   cases hde : zBp o with
   | true =>
    simp only [hde, cond_true] at hr
    obtain ⟨h1, h2⟩ := zRy (P := P) hok hr
    exact ⟨h1, fun E0 w0 E a w K Q hf hfree hK _ => h2 E0 w0 E a w K Q hf hfree hK⟩
   | false =>
   have hdef := zDp hde
   simp only [hde, cond_false] at hr
   have hopx : ∀ x ∈ o.op.operands, okX g0 x = true := fun x hx => List.all_eq_true.1 hok x (by simpa using hx)
   cases ha : aop P o (aev s.T) s.H.get s.n with
   | bad m => simp [ha] at hr
   | pan v =>
    simp only [ha, Res.code.injEq] at hr
    obtain ⟨rfl, rfl⟩ := hr
    refine ⟨⟨Grw.refl _ _ _, fun k hk => hk⟩, fun E0 w0 E a w K Q hf hfree hK hQ => ?_⟩
    have hs := zKl (n := s.n) hf.hr (o := o) (fun x hx => zBg hf.tr hf.gl (hopx x hx))
    rw [ha] at hs
    obtain ⟨v', w1, hrun, hv, hw⟩ := hs
    refine zAn hdef hrun ?_
    rw [Oper.uponIn_panic]
    refine hQ E _ _ w1 rfl (.refl E) (.refl E _) ?_ (.cons _ _ _ _ _ hv rfl rfl .nil)
    rcases hw with rfl | rfl
    ·exact hf
    ·exact ⟨hf.tr, hf.hr.drew, hf.lw, hf.stp.drew _, hf.df, hf.gl, hf.rd⟩
   | val v us k =>
    simp only [ha] at hr
    cases hky : keysOk s.n k us s.H.get with
    | false => simp [hky] at hr
    | true =>
    simp only [hky, cond_true] at hr
    cases hp : putT nt s.T o.dst v with
    | none => simp [hp] at hr
    | some T' =>
     simp only [hp, Res.code.injEq] at hr
     obtain ⟨rfl, rfl⟩ := hr
     refine ⟨⟨⟨Nat.le_add_right _ _, fun k hk hkw => ?_, fun h0 => zDa h0 (zEn hky (fun j hj => h0.lt hj))⟩, fun k hk => by simp [hk]⟩, fun E0 w0 E a w K Q hf hfree hK hQ => ?_⟩
     ·show (applyUs s.H us).get k = _
      rw [zBh]; exact zFr _ _ _ (fun h => hkw (by simp only [List.mem_append]; exact .inl h))
     ·have hs := zKl (n := s.n) hf.hr (o := o) (fun x hx => zBg hf.tr hf.gl (hopx x hx))
      rw [ha] at hs
      obtain ⟨nx, w', E1, hrun, hnx, hdom, hH, hst, _⟩ := hs (fun hk => hfree s.n (Nat.le_refl _) (by show _ < s.n + k; omega))
      refine zAn hdef hrun ?_
      have hx := hst.ext
      have fin : ∀ v', VR E1 v v' → K (a.put o.dst v') w' := fun v' hv => hK E1 _ w' rfl hx hdom
       ⟨(hf.tr.ext hx).put hv hp, by show HR P E1 (applyUs s.H us).get w'; rw [zBh]; exact hH, zDa hf.lw (zEn hky (fun j hj => hf.lw.lt hj)), hf.stp.trans hst, by rw [zAm]; exact hf.df.ext hx, fun g hg => ⟨hx.n g (hf.gl g hg).1, by rw [hx.ρ g (hf.gl g hg).1, hx.sh g (hf.gl g hg).1]; exact (hf.gl g hg).2⟩, fun l hl => hx.n l (hf.rd l hl)⟩
      rcases hnx with ⟨v', rfl, hv⟩ | ⟨rfl, rfl⟩
      ·exact fin v' hv
      ·exact fin undef VR.undef
end
end Go.Proofs.Ytpdeidlkeplegaa
