/- DERIVED. The machine M, ninth part: comparing with nil, type assertions; the single operations together. -/
import Derived.Test.YtgfjmkjhjfmbeaaGreatM8
import Derived.Laws.Strings
namespace Go.Proofs.YtgfjmkjhjfmbeaaGreat
open Go.RowKit

/-! ## comparing with nil -/
def eqN (d : TypeDesc) (x y : Value) : Option Bool :=
  match d, x, y with
  | .slice _, .slice none _ _, .slice b _ _ => some b.isNone
  | .slice _, .slice (some _) _ _, .slice none _ _ => some false
  | .map _ _, .map none, .map b => some b.isNone
  | .map _ _, .map (some _), .map none => some false
  | .pointer _, .pointer none, .pointer b => some b.isNone
  | .pointer _, .pointer (some _), .pointer none => some false
  | .func _ _ _, .nilFunc, .nilFunc => some true
  | .func _ _ _, .nilFunc, .func _ _ _ => some false
  | .func _ _ _, .func _ _ _, .nilFunc => some false
  | .interface _, .nilIface, .iface _ _ => some false
  | .interface _, .iface _ _, .nilIface => some false
  | _, _, _ => none

theorem eqN_rel {E : Env} {d : TypeDesc} {x y x' y' : Value} (hx : VR E x x') (hy : VR E y y') {r : Bool} (h : eqN d x y = some r) : eqN d x' y' = some r := by
  cases hx <;> cases hy <;> cases d <;> first | exact h | cases h

theorem run_eqN {P : Program} {t : TypeId} {d : TypeDesc} (hd : P.underlying t = some d) {x y : Value} {b : Bool} (h : eqN d x y = some b) (w : World) : (Op.equal t x y).run P w = .ok b w := by
  unfold Op.equal Op.maxDepth Op.equalIn
  simp only [Sem.run_bind, run_underlying hd, Result.andThen_ok]
  unfold eqN at h
  split at h <;> first | (cases h; simp; done) | (simp at h; subst h; simp; done) | (cases h)

def aEq (P : Program) (op : BinOp) (t : TypeId) (x y : Value) : ORes :=
  match op with
  | .eql => (match P.underlying t with | some d => (match eqN d x y with | some b => .val (.bool b) [] 0 | none => .bad "eql") | none => .bad "eql: type")
  | .neq => (match P.underlying t with | some d => (match eqN d x y with | some b => .val (.bool !b) [] 0 | none => .bad "neq") | none => .bad "neq: type")
  | _ => .bad "binOp"

theorem eqN_binop {P : Program} {t : TypeId} {d : TypeDesc} {x y : Value} {b : Bool} (h : eqN d x y = some b) : binOp .eql t x y = (do pure (.bool (← Op.equal t x y))) ∧ binOp .neq t x y = (do pure (.bool (!(← Op.equal t x y)))) ∧ ∀ (op : BinOp) (a c : Operand) (w : World), (eqGuard op t a c x y).run P w = .ok () w := by
  unfold eqN at h
  split at h <;> first | (cases h; done) | skip
  all_goals refine ⟨rfl, rfl, fun op a c w => ?_⟩
  all_goals cases op <;> simp [eqGuard]

theorem aEq_ok {P : Program} {E : Env} {G : Gh} {n : Nat} {w : World} (h : HR P E G w) (op : BinOp) (t yt : TypeId) (x y : Operand) {ev : Operand → Value} {a b : Value} {o : Oper} (ho : o.op = .binOp op t x y yt) (ha : VR E a (ev x)) (hb : VR E b (ev y)) :
    Sound1 P E G n w ((execOp ev o).run P w) (aEq P op t a b) := by
  unfold aEq
  split
  · cases hd : P.underlying t with
    | none => trivial
    | some d =>
      simp only []
      cases hq : eqN d a b with
      | none => trivial
      | some r =>
        replace hq := eqN_rel ha hb hq
        obtain ⟨e1, e2, e3⟩ := eqN_binop (P := P) (t := t) hq
        refine Sound1.pure h (v' := .bool r) ?_ (.bool _)
        simp [execOp, ho, e3, e1, run_eqN hd hq]
  · cases hd : P.underlying t with
    | none => trivial
    | some d =>
      simp only []
      cases hq : eqN d a b with
      | none => trivial
      | some r =>
        replace hq := eqN_rel ha hb hq
        obtain ⟨e1, e2, e3⟩ := eqN_binop (P := P) (t := t) hq
        refine Sound1.pure h (v' := .bool !r) ?_ (.bool _)
        simp [execOp, ho, e3, e2, run_eqN hd hq]
  · trivial

/-! ## comparing pointers -/
def notU8 (P : Program) (e : TypeId) : Bool := match P.underlying e with | some (.int .u8) => false | some _ => true | none => false
/-- Whether two pointers are the same one. -/
def ptrSame (P : Program) (t : TypeId) (x y : Value) (G : Gh) : Option Bool :=
  match P.underlying t, x, y with
  | some (.pointer te), .pointer (some ⟨a, i, none⟩), .pointer (some ⟨b, j, none⟩) =>
    (match G a, G b, P.info? te with
    | some (.cells _ e), some (.cells _ e'), some q => bif notU8 P e && notU8 P e' && Nat.blt 0 q.size then some (a.beq b && i.beq j) else none
    | _, _, _ => none)
  | _, _, _ => none
theorem ptrSame_run {P : Program} {E : Env} {G : Gh} {w : World} (h : HR P E G w) {t : TypeId} {x y x' y' : Value} {r : Bool} (hx : VR E x x') (hy : VR E y y') (hs : ptrSame P t x y G = some r) : (binOp .eql t x' y').run P w = .ok (.bool r) w ∧ (binOp .neq t x' y').run P w = .ok (.bool !r) w ∧ ∀ (op : BinOp) (a c : Operand) (w : World), (eqGuard op t a c x' y').run P w = .ok () w := by
  unfold ptrSame at hs
  split at hs
  case h_2 => cases hs
  rename_i te a i b j hu
  split at hs
  case h_2 => cases hs
  rename_i c e c' e' q hga hgb hq
  cases hc : (notU8 P e && notU8 P e' && Nat.blt 0 q.size) with
  | false => simp [hc] at hs
  | true =>
    simp only [hc, cond_true, Option.some.injEq] at hs
    simp only [Bool.and_eq_true] at hc
    have hpos : q.size ≠ 0 := by have : 0 < q.size := Nat.le_of_ble_eq_true hc.2; omega
    have frz : ∀ {e : TypeId} {fr : Nat × Nat} {arr : Array Value}, notU8 P e = true → (fr = (0, 0) ∨ (arr.size ≤ fr.1 ∧ P.underlying e = some (.int .u8))) → fr = (0, 0) := fun h1 h2 => by
      rcases h2 with h2 | ⟨_, h2⟩
      · exact h2
      · unfold notU8 at h1; rw [h2] at h1; cases h1
    obtain ⟨arr, fr, p1, p2, _⟩ := h.obj a _ hga
    obtain ⟨arr', fr', p1', p2', _⟩ := h.obj b _ hgb
    have f1 := frz hc.1.1 p2
    have f2 := frz hc.1.2 p2'
    subst f1; subst f2
    cases hx; cases hy
    have key : (binOp .eql t (.pointer (some ⟨E.ρ a, i, none⟩)) (.pointer (some ⟨E.ρ b, j, none⟩))).run P w = .ok (.bool r) w := by
      cases hr : (a.beq b && i.beq j) with
      | true =>
        rw [hr] at hs; subst hs
        simp only [Bool.and_eq_true] at hr
        have ha := Nat.eq_of_beq_eq_true hr.1
        have hi := Nat.eq_of_beq_eq_true hr.2
        subst ha; subst hi
        exact run_eql_ptr_same w _ hu hq
      | false =>
        rw [hr] at hs; subst hs
        refine run_eql_ptr_other w hu hq hpos (fun e => ?_) p1 p1'
        have e1 : E.ρ a = E.ρ b := congrArg Addr.block e
        have e2 : i = j := congrArg Addr.off e
        have := h.inj a b (by rw [hga]; simp) (by rw [hgb]; simp) e1
        rw [this, e2] at hr; simp at hr
    have heq : ∃ b0, (Op.equal t (.pointer (some ⟨E.ρ a, i, none⟩)) (.pointer (some ⟨E.ρ b, j, none⟩))).run P w = .ok b0 w ∧ b0 = r := by
      have hk := key
      simp only [binOp, Sem.run_bind] at hk
      generalize (Op.equal t (.pointer (some ⟨E.ρ a, i, none⟩)) (.pointer (some ⟨E.ρ b, j, none⟩))).run P w = R at hk ⊢
      cases R with
      | ok b0 w0 =>
        simp only [Result.andThen_ok, Sem.run_pure, Result.ok.injEq, Value.bool.injEq] at hk
        obtain ⟨rfl, rfl⟩ := hk
        exact ⟨_, rfl, rfl⟩
      | _ => simp [Result.andThen] at hk
    obtain ⟨b0, h0, rfl⟩ := heq
    refine ⟨key, ?_, fun op a c w => ?_⟩
    · simp only [binOp, Sem.run_bind, h0, Result.andThen_ok, Sem.run_pure]
    · cases op <;> simp [eqGuard]
def aPtr (P : Program) (op : BinOp) (t : TypeId) (x y : Value) (G : Gh) : ORes :=
  match op with
  | .eql => (match ptrSame P t x y G with | some r => .val (.bool r) [] 0 | none => .bad "eql")
  | .neq => (match ptrSame P t x y G with | some r => .val (.bool !r) [] 0 | none => .bad "neq")
  | _ => .bad "binOp"
theorem aPtr_ok {P : Program} {E : Env} {G : Gh} {n : Nat} {w : World} (h : HR P E G w) (op : BinOp) (t yt : TypeId) (x y : Operand) {ev : Operand → Value} {a b : Value} {o : Oper} (ho : o.op = .binOp op t x y yt) (ha : VR E a (ev x)) (hb : VR E b (ev y)) :
    Sound1 P E G n w ((execOp ev o).run P w) (aPtr P op t a b G) := by
  unfold aPtr
  split
  · cases hq : ptrSame P t a b G with
    | none => trivial
    | some r =>
      obtain ⟨e1, e2, e3⟩ := ptrSame_run h ha hb hq
      refine Sound1.pure h (v' := .bool r) ?_ (.bool _)
      simp [execOp, ho, e3, e1]
  · cases hq : ptrSame P t a b G with
    | none => trivial
    | some r =>
      obtain ⟨e1, e2, e3⟩ := ptrSame_run h ha hb hq
      refine Sound1.pure h (v' := .bool !r) ?_ (.bool _)
      simp [execOp, ho, e3, e2]
  · trivial

/-! ## numbers: a short way -/
def aFast (op : BinOp) (x y : Value) : Option Value :=
  match x, y with
  | .int k a, .int k' b =>
    bif decide (k = k') then
      (match op with
      | .add => some (.int k (k.wrap (a + b)))
      | .sub => some (.int k (k.wrap (a - b)))
      | .eql => some (.bool (a == b))
      | .neq => some (.bool (a != b))
      | .lss => some (.bool (decide (a < b)))
      | .leq => some (.bool (decide (a ≤ b)))
      | .gtr => some (.bool (decide (a > b)))
      | .geq => some (.bool (decide (a ≥ b)))
      | _ => none)
    else none
  | _, _ => none
def aBin (P : Program) (op : BinOp) (t : TypeId) (x y : Value) : ORes := match aFast op x y with | some v => .val v [] 0 | none => aEq P op t x y
theorem aBin_ok {P : Program} {E : Env} {G : Gh} {n : Nat} {w : World} (h : HR P E G w) (op : BinOp) (t yt : TypeId) (x y : Operand) {ev : Operand → Value} {a b : Value} {o : Oper} (ho : o.op = .binOp op t x y yt) (ha : VR E a (ev x)) (hb : VR E b (ev y)) :
    Sound1 P E G n w ((execOp ev o).run P w) (aBin P op t a b) := by
  unfold aBin
  split
  · rename_i v hf
    unfold aFast at hf
    split at hf
    · rename_i k a k' b
      have hx : ev x = .int k a := by cases hv' : ev x <;> rw [hv'] at ha <;> cases ha; rfl
      have hy : ev y = .int k' b := by cases hv' : ev y <;> rw [hv'] at hb <;> cases hb; rfl
      cases hk : decide (k = k') with
      | false => rw [hk] at hf; cases hf
      | true =>
        rw [hk] at hf
        have hk := of_decide_eq_true hk
        subst hk
        simp only [cond_true] at hf
        split at hf <;> cases hf
        all_goals exact Sound1.pure h (by simp [execOp, ho, hx, hy, eqGuard, binOp, Op.intArith, Op.intCmp]; try rfl) (by first | exact .bool _ | exact .int _ _)
    · cases hf
  · exact aEq_ok h op t yt x y ho ha hb

/-! ## type assertions -/
def aAssert (P : Program) (t : TypeId) (v : Value) (ok : Bool) : ORes :=
  match P.underlying t, v with
  | some (.interface want), .iface dt u => (match P.info? dt with
    | some i => (match Instr.missingMethod want i.methods with
      | none => .val (bif ok then .tuple #[.iface dt u, .bool true] else .iface dt u) [] 0
      | some _ => .bad "assert: missing")
    | none => .bad "assert: type")
  | some (.interface want), .chan (some dt) => (match P.info? dt with
    | some i => (match Instr.missingMethod want i.methods with
      | none => .val (bif ok then .tuple #[.chan (some dt), .bool true] else .chan (some dt)) [] 0
      | some _ => .bad "assert: missing")
    | none => .bad "assert: type")
  | some (.interface _), _ => .bad "assert: nil"
  | some _, .iface dt u => bif dt.beq t then .val (bif ok then .tuple #[u, .bool true] else u) [] 0 else
      (bif ok then (match P.info? t with
        | some i => (match i.zero with | some z => bif plainV 8 z then .val (.tuple #[z, .bool false]) [] 0 else .bad "assert: zero" | none => .bad "assert: no zero")
        | none => .bad "assert: type") else .bad "assert: fails")
  | _, _ => .bad "assert"
theorem aAssert_ok {P : Program} {E : Env} {G : Gh} {n : Nat} {w : World} (h : HR P E G w) (x : Operand) (st t : TypeId) (ok : Bool) {ev : Operand → Value} {v : Value} {o : Oper} (ho : o.op = .typeAssert x st t ok) (hv : VR E v (ev x)) :
    Sound1 P E G n w ((execOp ev o).run P w) (aAssert P t v ok) := by
  unfold aAssert
  split
  · rename_i want dt u hu
    obtain ⟨u', hev, hr⟩ : ∃ u', ev x = .iface dt u' ∧ VR E u u' := by cases hv' : ev x <;> rw [hv'] at hv <;> cases hv; exact ⟨_, rfl, ‹_›⟩
    cases hi : P.info? dt with
    | none => trivial
    | some i =>
      simp only []
      cases hm : Instr.missingMethod want i.methods with
      | some _ => trivial
      | none =>
        cases ok
        · exact Sound1.pure h (v' := .iface dt u') (by simp [execOp, ho, hev, Instr.typeAssert, run_underlying hu, typeInfo, hi, hm]) (.iface _ _ _ hr)
        · exact Sound1.pure h (v' := .tuple #[.iface dt u', .bool true]) (by simp [execOp, ho, hev, Instr.typeAssert, run_underlying hu, typeInfo, hi, hm]) (.tuple _ _ (.cons _ _ _ _ (.iface _ _ _ hr) (.cons _ _ _ _ (.bool _) .nil)))
  · rename_i want dt hu
    obtain ⟨u', hev⟩ : ∃ u', ev x = .iface dt (.agg u') := by cases hv' : ev x <;> rw [hv'] at hv <;> cases hv; exact ⟨_, rfl⟩
    cases hi : P.info? dt with
    | none => trivial
    | some i =>
      simp only []
      cases hm : Instr.missingMethod want i.methods with
      | some _ => trivial
      | none =>
        cases ok
        · exact Sound1.pure h (v' := .iface dt (.agg u')) (by simp [execOp, ho, hev, Instr.typeAssert, run_underlying hu, typeInfo, hi, hm]) (.ub _ _)
        · exact Sound1.pure h (v' := .tuple #[.iface dt (.agg u'), .bool true]) (by simp [execOp, ho, hev, Instr.typeAssert, run_underlying hu, typeInfo, hi, hm]) (.tuple _ _ (.cons _ _ _ _ (.ub _ _) (.cons _ _ _ _ (.bool _) .nil)))
  · trivial
  · rename_i d dt u hn hu
    obtain ⟨u', hev, hr⟩ : ∃ u', ev x = .iface dt u' ∧ VR E u u' := by cases hv' : ev x <;> rw [hv'] at hv <;> cases hv; exact ⟨_, rfl, ‹_›⟩
    have hrun : (Instr.typeAssert (.iface dt u') st t ok).run P w = (if dt = t then (Pure.pure (if ok then .tuple #[u', .bool true] else u') : Sem Value) else (if ok then (do pure (.tuple #[← zeroValue t, .bool false])) else runtimePanic (.typeAssertion (some st) (some dt) t ""))).run P w := by
      unfold Instr.typeAssert
      simp only [Sem.run_bind, run_underlying hu, Result.andThen_ok]
    cases he : dt.beq t with
    | true =>
      have he : dt = t := Nat.eq_of_beq_eq_true he
      rw [if_pos he] at hrun
      cases ok
      · exact Sound1.pure h (v' := u') (by simp [execOp, ho, hev, hrun]) hr
      · exact Sound1.pure h (v' := .tuple #[u', .bool true]) (by simp [execOp, ho, hev, hrun]) (.tuple _ _ (.cons _ _ _ _ hr (.cons _ _ _ _ (.bool _) .nil)))
    | false =>
      have he : dt ≠ t := fun e => by rw [e] at he; simp at he
      rw [if_neg he] at hrun
      cases ok
      · trivial
      · simp only [cond_true, cond_false]
        cases hi : P.info? t with
        | none => trivial
        | some i =>
          simp only []
          cases hz : i.zero with
          | none => trivial
          | some z =>
            simp only []
            cases hp : plainV 8 z with
            | false => trivial
            | true =>
              refine Sound1.pure h (v' := .tuple #[z, .bool false]) ?_ (.tuple _ _ (.cons _ _ _ _ (plain_refl 8 hp) (.cons _ _ _ _ (.bool _) .nil)))
              simp [zeroValue, typeInfo, hi, hz] at hrun
              simp [execOp, ho, hev, hrun]
  · trivial

/-! ## panic -/
def aPanic (v : Value) : ORes := match v with | .iface t u => .pan (.iface t u) | _ => .bad "panic"
theorem aPanic_ok {P : Program} {E : Env} {G : Gh} {n : Nat} {w : World} (x : Operand) {ev : Operand → Value} {v : Value} {o : Oper} (ho : o.op = .panic x) (hv : VR E v (ev x)) :
    Sound1 P E G n w ((execOp ev o).run P w) (aPanic v) := by
  unfold aPanic
  split
  · rename_i t u
    obtain ⟨u', hev, hr⟩ : ∃ u', ev x = .iface t u' ∧ VR E u u' := by cases hv' : ev x <;> rw [hv'] at hv <;> cases hv; exact ⟨_, rfl, ‹_›⟩
    exact ⟨.iface t u', w, by simp [execOp, ho, hev, Instr.panic], .iface _ _ _ hr, .inl rfl⟩
  · trivial

def ORes.or (a b : ORes) : ORes := match a with | .bad _ => b | r => r
theorem Sound1.or {P : Program} {E : Env} {G : Gh} {n : Nat} {w : World} {r : Result Next} {a b : ORes} (ha : Sound1 P E G n w r a) (hb : Sound1 P E G n w r b) : Sound1 P E G n w r (a.or b) := by
  cases a with
  | bad _ => exact hb
  | _ => exact ha

/-! ## builtins -/
def aBuiltin (P : Program) (b : Builtin) (ts : List TypeId) (as : List Value) (G : Gh) (n : Nat) : ORes :=
  match b, ts, as with
  | .len, [t], [v] => aLen P t v G
  | .append, [sT, xT], [s, x] => aAppend P sT xT s x G n
  | .copy, [t, _], [d, x] => aCopy P t d x G
  | .delete, [t, _], [m, k] => aDelete P t m k G
  | .clear, [t], [d] => aClear P t d G
  | _, _, _ => .bad "builtin"

theorem aBuiltin_ok {P : Program} {E : Env} {G : Gh} {n : Nat} {w : World} (h : HR P E G w) {b : Builtin} {ts : Array TypeId} {as : Array Operand} {ev ev' : Operand → Value} {o : Oper} (ho : o.op = .call { callee := .builtin b, args := as, argTypes := ts }) (hv : ∀ x ∈ o.op.operands, VR E (ev x) (ev' x)) :
    Sound1 P E G n w ((execOp ev' o).run P w) (aBuiltin P b ts.toList (as.toList.map ev) G n) := by
  have ha : ∀ x ∈ as, VR E (ev x) (ev' x) := fun x hx => hv x (by rw [ho]; simp [Op.operands, Call.operands, hx])
  rw [run_callB ho]
  unfold aBuiltin
  have one : ∀ {l : List TypeId}, ts.toList = l → ts = l.toArray := fun h => by rw [← h]
  split
  · rename_i t v ht hav
    obtain ⟨x, hx, rfl⟩ : ∃ x, as = #[x] ∧ ev x = v := by
      obtain ⟨l⟩ := as
      match l, hav with
      | [x], h => exact ⟨x, rfl, by simpa using h⟩
    subst hx
    rw [one ht]
    simpa using aLen_ok h t o.type _ (ha x (by simp))
  · rename_i sT xT s x ht hav
    obtain ⟨a, b, hx, rfl, rfl⟩ : ∃ a b, as = #[a, b] ∧ ev a = s ∧ ev b = x := by
      obtain ⟨l⟩ := as
      match l, hav with
      | [a, b], h => simp at h; exact ⟨a, b, rfl, h.1, h.2⟩
    subst hx
    rw [one ht]
    have := aAppend_ok (nn := n) h sT xT o.type (ha a (by simp)) (ha b (by simp))
    simpa [builtin] using this
  · rename_i t xT d x ht hav
    obtain ⟨a, b, hx, rfl, rfl⟩ : ∃ a b, as = #[a, b] ∧ ev a = d ∧ ev b = x := by
      obtain ⟨l⟩ := as
      match l, hav with
      | [a, b], h => simp at h; exact ⟨a, b, rfl, h.1, h.2⟩
    subst hx
    rw [one ht]
    have := aCopy_ok (nn := n) h t xT o.type (ha a (by simp)) (ha b (by simp))
    simpa [builtin] using this
  · rename_i t xT m k ht hav
    obtain ⟨a, b, hx, rfl, rfl⟩ : ∃ a b, as = #[a, b] ∧ ev a = m ∧ ev b = k := by
      obtain ⟨l⟩ := as
      match l, hav with
      | [a, b], h => simp at h; exact ⟨a, b, rfl, h.1, h.2⟩
    subst hx
    rw [one ht]
    have := aDelete_ok (n := n) h t xT o.type (ha a (by simp)) (ha b (by simp))
    simpa [builtin] using this
  · rename_i t d ht hav
    obtain ⟨x, hx, rfl⟩ : ∃ x, as = #[x] ∧ ev x = d := by
      obtain ⟨l⟩ := as
      match l, hav with
      | [x], h => exact ⟨x, rfl, by simpa using h⟩
    subst hx
    rw [one ht]
    have := aClear_ok (nn := n) h t o.type (ha x (by simp))
    simpa [builtin] using this
  · trivial

def aConvert (P : Program) (src dst : TypeId) (v : Value) (G : Gh) (n : Nat) : ORes :=
  match v with
  | .slice _ _ _ => aToStr P src dst v G
  | .string s => aToBytes P src dst s n
  | _ => .bad "convert"
theorem aConvert_ok {P : Program} {E : Env} {G : Gh} {n : Nat} {w : World} (h : HR P E G w) (src dst : TypeId) (x : Operand) {ev : Operand → Value} {v : Value} {o : Oper} (ho : o.op = .convert src dst x) (hv : VR E v (ev x)) :
    Sound1 P E G n w ((execOp ev o).run P w) (aConvert P src dst v G n) := by
  unfold aConvert
  split
  · exact aToStr_ok h src dst x ho ⟨_, _, _, rfl⟩ hv
  · exact aToBytes_ok h src dst x ho hv
  · trivial

/-! ## strings: a short way -/
def aStr (P : Program) (o : Oper) (ev : Operand → Value) : ORes :=
  match o.op with
  | .index t x y => (match P.underlying t, ev x, ev y with
    | some .string, .string s, .int _ i => bif decide (0 ≤ i) then (match s.data.toList[i.toNat]? with | some b => .val (.int .u8 b.toNat) [] 0 | none => .bad "string: index") else .bad "string: index"
    | _, _, _ => .bad "string")
  | .slice t x lo hi none => (match P.underlying t, ev x with
    | some .string, .string s => (match sbound (hi.map ev) s.data.size s.data.size with
      | some h => (match sbound (lo.map ev) h 0 with | some l => .val (.string ⟨((s.data.toList.take h).drop l).toArray⟩) [] 0 | none => .bad "string: low")
      | none => .bad "string: high")
    | _, _ => .bad "string")
  | .call c => (match c.callee, c.argTypes.toList, c.args.toList with
    | .builtin .len, [t], [x] => (match P.underlying t, ev x with | some .string, .string s => .val (.int .i64 s.data.size) [] 0 | _, _ => .bad "string")
    | _, _, _ => .bad "string")
  | .binOp .eql _ x y _ => (match ev x, ev y with | .string a, .string b => .val (.bool (a.data.toList == b.data.toList)) [] 0 | _, _ => .bad "string")
  | .binOp .neq _ x y _ => (match ev x, ev y with | .string a, .string b => .val (.bool !(a.data.toList == b.data.toList)) [] 0 | _, _ => .bad "string")
  | _ => .bad "string"
theorem VR.str_inv {E : Env} {s : ByteArray} {v : Value} (h : VR E (.string s) v) : v = .string s := by cases h; rfl
theorem VR.int_inv {E : Env} {k : IntKind} {i : Int} {v : Value} (h : VR E (.int k i) v) : v = .int k i := by cases h; rfl
theorem bytes_toList (s : ByteArray) : s.toList = s.data.toList := ByteArray.toList_eq s
theorem bytes_slice (s : ByteArray) (l h : Nat) : s.extract l h = ⟨((s.data.toList.take h).drop l).toArray⟩ := by
  apply ByteArray.ext
  apply Array.toList_inj.1
  rw [ByteArray.data_extract, Array.toList_extract, List.extract_eq_take_drop]
  simp [List.drop_take]
theorem aStr_ok {P : Program} {E : Env} {G : Gh} {n : Nat} {w : World} (h : HR P E G w) {o : Oper} {ev ev' : Operand → Value} (hv : ∀ x ∈ o.op.operands, VR E (ev x) (ev' x)) :
    Sound1 P E G n w ((execOp ev' o).run P w) (aStr P o ev) := by
  unfold aStr
  split
  · rename_i t x y ho
    have hx := hv x (by rw [ho]; simp [Op.operands])
    have hy := hv y (by rw [ho]; simp [Op.operands])
    split
    · rename_i s k i hu h1 h2
      rw [h1] at hx; rw [h2] at hy
      have ex := hx.str_inv
      have ey := hy.int_inv
      cases hi : decide (0 ≤ i) with
      | false => trivial
      | true =>
        have hi := of_decide_eq_true hi
        simp only [cond_true]
        split
        · rename_i b hb
          have hb' : s[i.toNat]? = some b := by
            rw [← hb, Array.getElem?_toList]
            rfl
          exact Sound1.pure h (by simp [execOp, ho, ex, ey, Instr.index, asIntOf, run_underlying hu, hi, hb']) (.int _ _)
        · trivial
    · trivial
  · rename_i t x lo hi ho
    have hx := hv x (by rw [ho]; simp [Op.operands])
    have hlo : ∀ y, lo = some y → VR E (ev y) (ev' y) := fun y hy => hv y (by rw [ho, hy]; simp [Op.operands])
    have hhi : ∀ y, hi = some y → VR E (ev y) (ev' y) := fun y hy => hv y (by rw [ho, hy]; cases lo <;> simp [Op.operands])
    split
    · rename_i s hu h1
      rw [h1] at hx
      have ex := hx.str_inv
      split
      · rename_i hh hbh
        split
        · rename_i ll hbl
          have same : ∀ (z : Option Operand), (∀ y, z = some y → VR E (ev y) (ev' y)) → ∀ y d r, sbound (z.map ev) y d = some r → sbound (z.map ev') y d = some r := by
            intro z hz y d r hs
            cases z with
            | none => exact hs
            | some q =>
              have hq := hz q rfl
              simp only [Option.map_some] at hs ⊢
              cases hq' : ev q <;> rw [hq'] at hs hq <;> simp only [sbound] at hs <;> first | (rw [hq.int_inv]; exact hs) | cases hs
          have hb := run_bounds (P := P) (w := w) (isS := false) (len := s.data.size) (cap := s.data.size) (mx := none) rfl (same hi hhi _ _ _ hbh) (fun e => by cases e) (same lo hlo _ _ _ hbl)
          have hb : (Instr.sliceBounds false s.size s.size (lo.map ev') (hi.map ev') none).run P w = .ok (ll, hh, s.data.size) w := hb
          refine Sound1.pure h (v' := .string (s.extract ll hh)) ?_ (by rw [bytes_slice]; exact .string _)
          simp [execOp, ho, ex, Instr.sliceAt, Instr.slice, run_underlying hu, hb]
        · trivial
      · trivial
    · trivial
  · rename_i c ho
    obtain ⟨callee, args, argTypes⟩ := c
    split
    · rename_i t x hcl hts has
      have hcl : callee = .builtin .len := hcl
      have hts : argTypes.toList = [t] := hts
      have has : args.toList = [x] := has
      obtain rfl : argTypes = #[t] := by rw [← hts]
      obtain rfl : args = #[x] := by rw [← has]
      subst hcl
      have hx := hv x (by rw [ho]; simp [Op.operands, Call.operands])
      split
      · rename_i s hu h1
        rw [h1] at hx
        exact Sound1.pure h (v' := .int .i64 s.data.size) (by rw [run_callB ho]; simp [builtin, Builtin.len_, run_underlying hu, hx.str_inv, goInt]; try rfl) (.int _ _)
      · trivial
    · trivial
  · rename_i t x y yt ho
    have hx := hv x (by rw [ho]; simp [Op.operands])
    have hy := hv y (by rw [ho]; simp [Op.operands])
    split
    · rename_i a b h1 h2
      rw [h1] at hx; rw [h2] at hy
      exact Sound1.pure h (by simp [execOp, ho, hx.str_inv, hy.str_inv, eqGuard, binOp, Op.stringOp, bytes_toList]; try rfl) (.bool _)
    · trivial
  · rename_i t x y yt ho
    have hx := hv x (by rw [ho]; simp [Op.operands])
    have hy := hv y (by rw [ho]; simp [Op.operands])
    split
    · rename_i a b h1 h2
      rw [h1] at hx; rw [h2] at hy
      exact Sound1.pure h (by simp [execOp, ho, hx.str_inv, hy.str_inv, eqGuard, binOp, Op.stringOp, bytes_toList]; try rfl) (.bool _)
    · trivial
  · trivial

/-! ## all of them -/
def aop0 (P : Program) (o : Oper) (ev : Operand → Value) (G : Gh) (n : Nat) : ORes :=
  match o.op with
  | .move x | .assign x => .val (ev x) [] 0
  | .pick c a b => aPick (ev c) (ev a) (ev b)
  | .alloc e => aAlloc P e n
  | .box e x => aBox P e (ev x) n
  | .build t ps => aBuild P t (pvals ev ps)
  | .buildSlice t l ps => aBuildSlice P t l (pvals ev ps) n
  | .load t a => aLoad P t (ev a) G
  | .store t a x => aStore P t (ev a) (ev x) G
  | .nilCheck x => (aNil (ev x)).or (aPure P ev o)
  | .binOp op t x y _ => ((aBin P op t (ev x) (ev y)).or (aPtr P op t (ev x) (ev y) G)).or (aPure P ev o)
  | .extract x k => aExtract (ev x) k
  | .field t x k => aField P t (ev x) k
  | .fieldAddr t x k => aFieldAddr P t (ev x) k
  | .indexAddr t x y => aIndexAddr P t (ev x) (ev y)
  | .index t x y => (aIndex P t (ev x) (ev y)).or (aPure P ev o)
  | .slice t x lo hi mx => (aSlice P t (ev x) (lo.map ev) (hi.map ev) (mx.map ev) G).or (aPure P ev o)
  | .makeInterface t x => aMkI P t (ev x)
  | .makeFunc fn as cs => aMkF fn (as.toList.map ev) (cs.toList.map ev)
  | .makeMap _ r => aMakeMap n (r.map ev)
  | .makeSlice t l c => aMake P t (ev l) (ev c) n
  | .lookup t x y ok => (aLookup P t (ev x) (ev y) ok G).or (aPure P ev o)
  | .mapUpdate t x y z | .insert t x y z => aUpdate P t (ev x) (ev y) (ev z) G
  | .typeAssert x _ t ok => (aAssert P t (ev x) ok).or (aPure P ev o)
  | .convert s d x => (aConvert P s d (ev x) G n).or (aPure P ev o)
  | .panic x => aPanic (ev x)
  | .range t x => aRange P t (ev x) G n
  | .call c => (match c.callee with
    | .builtin b => (aBuiltin P b c.argTypes.toList (c.args.toList.map ev) G n).or (aPure P ev o)
    | _ => .bad "call")
  | _ => aPure P ev o

theorem aop0_ok {P : Program} {E : Env} {G : Gh} {n : Nat} {w : World} (h : HR P E G w) {o : Oper} {ev ev' : Operand → Value} (hv : ∀ x ∈ o.op.operands, VR E (ev x) (ev' x)) :
    Sound1 P E G n w ((execOp ev' o).run P w) (aop0 P o ev G n) := by
  have hp := aPure_ok (n := n) h hv
  unfold aop0
  split
  case h_1 x ho => exact aMove_ok h x (.inl ho) (hv x (by rw [ho]; simp [Op.operands]))
  case h_2 x ho => exact aMove_ok h x (.inr ho) (hv x (by rw [ho]; simp [Op.operands]))
  case h_3 c a b ho => exact aPick_ok h c a b ho (hv _ (by rw [ho]; simp [Op.operands])) (hv _ (by rw [ho]; simp [Op.operands])) (hv _ (by rw [ho]; simp [Op.operands]))
  case h_4 e ho => exact aAlloc_ok h e ho
  case h_5 e x ho => exact aBox_ok h e x ho (hv _ (by rw [ho]; simp [Op.operands]))
  case h_6 t ps ho => exact aBuild_ok h t ps ho hv
  case h_7 t l ps ho => exact aBuildSlice_ok h t l ps ho hv
  case h_8 t a ho => exact aLoad_ok h t a ho (hv _ (by rw [ho]; simp [Op.operands]))
  case h_9 t a x ho => exact aStore_ok h t a x ho (hv _ (by rw [ho]; simp [Op.operands])) (hv _ (by rw [ho]; simp [Op.operands]))
  case h_10 x ho => exact (aNil_ok h x ho (hv _ (by rw [ho]; simp [Op.operands]))).or hp
  case h_11 op t x y yt ho => exact ((aBin_ok h op t yt x y ho (hv _ (by rw [ho]; simp [Op.operands])) (hv _ (by rw [ho]; simp [Op.operands]))).or (aPtr_ok h op t yt x y ho (hv _ (by rw [ho]; simp [Op.operands])) (hv _ (by rw [ho]; simp [Op.operands])))).or hp
  case h_12 x k ho => exact aExtract_ok h x k ho (hv _ (by rw [ho]; simp [Op.operands]))
  case h_13 t x k ho => exact aField_ok h t x k ho (hv _ (by rw [ho]; simp [Op.operands]))
  case h_14 t x k ho => exact aFieldAddr_ok h t x k ho (hv _ (by rw [ho]; simp [Op.operands]))
  case h_15 t x y ho => exact aIndexAddr_ok h t x y ho (hv _ (by rw [ho]; simp [Op.operands])) (hv _ (by rw [ho]; simp [Op.operands]))
  case h_16 t x y ho => exact (aIndex_ok h t x y ho (hv _ (by rw [ho]; simp [Op.operands])) (hv _ (by rw [ho]; simp [Op.operands]))).or hp
  case h_17 t x lo hi mx ho => exact (aSlice_ok h t x lo hi mx ho hv).or hp
  case h_18 t x ho => exact aMkI_ok h t x ho (hv _ (by rw [ho]; simp [Op.operands]))
  case h_19 fn as cs ho => exact aMkF_ok h fn as cs ho hv
  case h_20 t r ho => exact aMakeMap_ok h t r ho
  case h_21 t l c ho => exact aMake_ok h t l c ho (hv _ (by rw [ho]; simp [Op.operands])) (hv _ (by rw [ho]; simp [Op.operands]))
  case h_22 t x y ok ho => exact (aLookup_ok h t x y ok ho (hv _ (by rw [ho]; simp [Op.operands])) (hv _ (by rw [ho]; simp [Op.operands]))).or hp
  case h_23 t x y z ho => exact aUpdate_ok h t x y z (.inl ho) (hv _ (by rw [ho]; simp [Op.operands])) (hv _ (by rw [ho]; simp [Op.operands])) (hv _ (by rw [ho]; simp [Op.operands]))
  case h_24 t x y z ho => exact aUpdate_ok h t x y z (.inr ho) (hv _ (by rw [ho]; simp [Op.operands])) (hv _ (by rw [ho]; simp [Op.operands])) (hv _ (by rw [ho]; simp [Op.operands]))
  case h_25 x st t ok ho => exact (aAssert_ok h x st t ok ho (hv _ (by rw [ho]; simp [Op.operands]))).or hp
  case h_26 s d x ho => exact (aConvert_ok h s d x ho (hv _ (by rw [ho]; simp [Op.operands]))).or hp
  case h_27 x ho => exact aPanic_ok x ho (hv _ (by rw [ho]; simp [Op.operands]))
  case h_28 t x ho => exact aRange_ok h t x ho (hv _ (by rw [ho]; simp [Op.operands]))
  case h_29 c ho =>
    obtain ⟨callee, args, argTypes⟩ := c
    cases callee with
    | builtin b => exact (aBuiltin_ok h ho hv).or hp
    | _ => trivial
  case h_30 => exact hp

def aop (P : Program) (o : Oper) (ev : Operand → Value) (G : Gh) (n : Nat) : ORes := (aStr P o ev).or (aop0 P o ev G n)
theorem aop_ok {P : Program} {E : Env} {G : Gh} {n : Nat} {w : World} (h : HR P E G w) {o : Oper} {ev ev' : Operand → Value} (hv : ∀ x ∈ o.op.operands, VR E (ev x) (ev' x)) :
    Sound1 P E G n w ((execOp ev' o).run P w) (aop P o ev G n) := (aStr_ok h hv).or (aop0_ok h hv)
end Go.Proofs.YtgfjmkjhjfmbeaaGreat
