/- DERIVED. Texts put together: M9, M10. -/
import Derived.Laws.Small
import Derived.Laws.Strings
import Derived.Test.YtpdeidlkeplegaaZ7
set_option maxRecDepth 1000000
set_option maxHeartbeats 32000000
namespace Go.Proofs.Ytpdeidlkeplegaa
open Go.RowKit
def nilish : Value → Bool
 | .slice (some _) _ c => c.beq 0
 | .func (.via _ _ _ _) _ _ => true
 | _ => false
def eqM (d : TypeDesc) (x y : Value) : Option Bool :=
 match d, x, y with
 | .slice _, .slice none _ _, .slice b _ _ => some b.isNone
 | .slice _, .slice (some _) _ _, .slice none _ _ => some false
 | .map _ _, .map none, .map b => some b.isNone
 | .map _ _, .map (some _), .map none => some false
 | .pointer _, .pointer none, .pointer b => some b.isNone
 | .pointer _, .pointer (some _), .pointer none => some false
 | .func _ _ _, .nilFunc, .nilFunc => some true
 | .func _ _ _, .nilFunc, .func _ _ _ => some false
 | .func _ _ _, .func _ _ _, .nilFunc => some false
 | .interface _, .nilIface, .iface _ _ => some false
 | .interface _, .iface _ _, .nilIface => some false
 | _, _, _ => none
def eqN (d : TypeDesc) (x y : Value) : Option Bool := bif nilish x || nilish y then none else eqM d x y
theorem eqM_l {E : Env} {d : TypeDesc} {x y x' : Value} (hx : VR E x x') (hn : nilish x = false) {r : Bool} (h : eqM d x y = some r) : eqM d x' y = some r := by
 cases hx with
 | deep => cases hn
 | se b o c a' hb ha hc =>
  cases a' with
  | none => have := ha rfl; subst this; cases hn
  | some a => cases d <;> first | exact h | (cases h; done) | (cases y <;> first | exact h | (cases h; done) | (rename_i q _ _; cases q <;> first | exact h | (cases h; done)) | (rename_i q; cases q <;> first | exact h | (cases h; done)))
 | _ => cases d <;> first | exact h | (cases h; done) | (cases y <;> first | exact h | (cases h; done) | (rename_i q _ _; cases q <;> first | exact h | (cases h; done)) | (rename_i q; cases q <;> first | exact h | (cases h; done)))
theorem eqM_r {E : Env} {d : TypeDesc} {x y y' : Value} (hy : VR E y y') (hn : nilish y = false) {r : Bool} (h : eqM d x y = some r) : eqM d x y' = some r := by
 cases hy with
 | deep => cases hn
 | se b o c a' hb ha hc =>
  cases a' with
  | none => have := ha rfl; subst this; cases hn
  | some a => cases d <;> first | exact h | (cases h; done) | (cases x <;> first | exact h | (cases h; done) | (rename_i q _ _; cases q <;> first | exact h | (cases h; done)) | (rename_i q; cases q <;> first | exact h | (cases h; done)))
 | _ => cases d <;> first | exact h | (cases h; done) | (cases x <;> first | exact h | (cases h; done) | (rename_i q _ _; cases q <;> first | exact h | (cases h; done)) | (rename_i q; cases q <;> first | exact h | (cases h; done)))
theorem eqN_rel {E : Env} {d : TypeDesc} {x y x' y' : Value} (hx : VR E x x') (hy : VR E y y') {r : Bool} (h : eqN d x y = some r) : eqM d x' y' = some r := by
 unfold eqN at h
 cases hn : (nilish x || nilish y) with
 | true => rw [hn] at h; cases h
 | false =>
  rw [hn] at h
  simp only [Bool.or_eq_false_iff] at hn
  exact eqM_r hy hn.2 (eqM_l hx hn.1 h)
theorem run_eqN {P : Program} {t : TypeId} {d : TypeDesc} (hd : P.underlying t = some d) {x y : Value} {b : Bool} (h : eqM d x y = some b) (w : World) : (Op.equal t x y).run P w = .ok b w := by
 unfold Op.equal Op.maxDepth Op.equalIn
 simp only [Sem.run_bind, run_underlying hd, Result.andThen_ok]
 unfold eqM at h
 split at h <;> first | (cases h; simp; done) | (simp at h; subst h; simp; done) | (cases h)
def aEq (P : Program) (op : BinOp) (t : TypeId) (x y : Value) : ORes :=
 match op with
 | .eql => (match P.underlying t with | some d => (match eqN d x y with | some b => .val (.bool b) [] 0 | none => .bad "eql") | none => .bad "eql: type")
 | .neq => (match P.underlying t with | some d => (match eqN d x y with | some b => .val (.bool !b) [] 0 | none => .bad "neq") | none => .bad "neq: type")
 | _ => .bad "binOp"
theorem zNa {P : Program} {t : TypeId} {d : TypeDesc} {x y : Value} {b : Bool} (h : eqM d x y = some b) : binOp .eql t x y = (do pure (.bool (← Op.equal t x y))) ∧ binOp .neq t x y = (do pure (.bool (!(← Op.equal t x y)))) ∧ ∀ (op : BinOp) (a c : Operand) (w : World), (eqGuard op t a c x y).run P w = .ok () w := by
 unfold eqM at h
 split at h <;> first | (cases h; done) | skip
 all_goals refine ⟨rfl, rfl, fun op a c w => ?_⟩
 all_goals cases op <;> simp [eqGuard]
theorem aEq_ok {P : Program} {E : Env} {G : Gh} {n : Nat} {w : World} (h : HR P E G w) (op : BinOp) (t yt : TypeId) (x y : Operand) {ev : Operand → Value} {a b : Value} {o : Oper} (ho : o.op = .binOp op t x y yt) (ha : VR E a (ev x)) (hb : VR E b (ev y)) :
  Sound1 P E G n w ((execOp ev o).run P w) (aEq P op t a b) := by
 unfold aEq
 split
 ·cases hd : P.underlying t with
  | none => trivial
  | some d =>
   simp only []
   cases hq : eqN d a b with
   | none => trivial
   | some r =>
    replace hq := eqN_rel ha hb hq
    obtain ⟨e1, e2, e3⟩ := zNa (P := P) (t := t) hq
    refine Sound1.pure h (v' := .bool r) ?_ (.bool _)
    simp [execOp, ho, e3, e1, run_eqN hd hq]
 ·cases hd : P.underlying t with
  | none => trivial
  | some d =>
   simp only []
   cases hq : eqN d a b with
   | none => trivial
   | some r =>
    replace hq := eqN_rel ha hb hq
    obtain ⟨e1, e2, e3⟩ := zNa (P := P) (t := t) hq
    refine Sound1.pure h (v' := .bool !r) ?_ (.bool _)
    simp [execOp, ho, e3, e2, run_eqN hd hq]
 ·trivial
def notU8 (P : Program) (e : TypeId) : Bool := match P.underlying e with | some (.int .u8) => false | some _ => true | none => false
def zEp (P : Program) (t : TypeId) (x y : Value) (G : Gh) : Option Bool :=
 match P.underlying t, x, y with
 | some (.pointer te), .pointer (some ⟨a, i, none⟩), .pointer (some ⟨b, j, none⟩) =>
  (match G a, G b, P.info? te with
  | some (.cells _ e), some (.cells _ e'), some q => bif notU8 P e && notU8 P e' && Nat.blt 0 q.size then some (a.beq b && i.beq j) else none
  | _, _, _ => none)
 | _, _, _ => none
theorem zJm {P : Program} {E : Env} {G : Gh} {w : World} (h : HR P E G w) {t : TypeId} {x y x' y' : Value} {r : Bool} (hx : VR E x x') (hy : VR E y y') (hs : zEp P t x y G = some r) : (binOp .eql t x' y').run P w = .ok (.bool r) w ∧ (binOp .neq t x' y').run P w = .ok (.bool !r) w ∧ ∀ (op : BinOp) (a c : Operand) (w : World), (eqGuard op t a c x' y').run P w = .ok () w := by
 unfold zEp at hs
 split at hs
 case h_2 => cases hs
 rename_i te a i b j hu
 split at hs
 case h_2 => cases hs
 rename_i c e c' e' q hga hgb hq
 cases hc : (notU8 P e && notU8 P e' && Nat.blt 0 q.size) with
 | false => simp [hc] at hs
 | true =>
  simp only [hc, cond_true, Option.some.injEq] at hs
  simp only [Bool.and_eq_true] at hc
  have hpos : q.size ≠ 0 := by have : 0 < q.size := Nat.le_of_ble_eq_true hc.2; omega
  have frz : ∀ {e : TypeId} {fr : Nat × Nat} {arr : Array Value}, notU8 P e = true → (fr = (0, 0) ∨ (arr.size ≤ fr.1 ∧ P.underlying e = some (.int .u8))) → fr = (0, 0) := fun h1 h2 => by
   rcases h2 with h2 | ⟨_, h2⟩
   ·exact h2
   ·unfold notU8 at h1; rw [h2] at h1; cases h1
  have za := (h.obj a _ hga).sh0
  have zb := (h.obj b _ hgb).sh0
  obtain ⟨arr, fr, p1, p2, _⟩ := h.obj a _ hga
  obtain ⟨arr', fr', p1', p2', _⟩ := h.obj b _ hgb
  have f1 := frz hc.1.1 p2
  have f2 := frz hc.1.2 p2'
  subst f1; subst f2
  cases hx; cases hy
  rw [za, zb, Nat.zero_add, Nat.zero_add]
  have key : (binOp .eql t (.pointer (some ⟨E.ρ a, i, none⟩)) (.pointer (some ⟨E.ρ b, j, none⟩))).run P w = .ok (.bool r) w := by
   cases hr : (a.beq b && i.beq j) with
   | true =>
    rw [hr] at hs; subst hs
    simp only [Bool.and_eq_true] at hr
    have ha := Nat.eq_of_beq_eq_true hr.1
    have hi := Nat.eq_of_beq_eq_true hr.2
    subst ha; subst hi
    exact run_eql_ptr_same w _ hu hq
   | false =>
    rw [hr] at hs; subst hs
    refine run_eql_ptr_other w hu hq hpos (fun e => ?_) p1 p1'
    have e1 : E.ρ a = E.ρ b := congrArg Addr.block e
    have e2 : i = j := congrArg Addr.off e
    have := h.inj a b (by rw [hga]; simp) (by rw [hgb]; simp) (.inl fun x => h.ro a _ hga x) e1
    rw [this, e2] at hr; simp at hr
  have heq : ∃ b0, (Op.equal t (.pointer (some ⟨E.ρ a, i, none⟩)) (.pointer (some ⟨E.ρ b, j, none⟩))).run P w = .ok b0 w ∧ b0 = r := by
   have hk := key
   simp only [binOp, Sem.run_bind] at hk
   generalize (Op.equal t (.pointer (some ⟨E.ρ a, i, none⟩)) (.pointer (some ⟨E.ρ b, j, none⟩))).run P w = R at hk ⊢
   cases R with
   | ok b0 w0 =>
    simp only [Result.andThen_ok, Sem.run_pure, Result.ok.injEq, Value.bool.injEq] at hk
    obtain ⟨rfl, rfl⟩ := hk
    exact ⟨_, rfl, rfl⟩
   | _ => simp [Result.andThen] at hk
  obtain ⟨b0, h0, rfl⟩ := heq
  refine ⟨key, ?_, fun op a c w => ?_⟩
  ·simp only [binOp, Sem.run_bind, h0, Result.andThen_ok, Sem.run_pure]
  ·cases op <;> simp [eqGuard]
def aPtr (P : Program) (op : BinOp) (t : TypeId) (x y : Value) (G : Gh) : ORes :=
 match op with
 | .eql => (match zEp P t x y G with | some r => .val (.bool r) [] 0 | none => .bad "eql")
 | .neq => (match zEp P t x y G with | some r => .val (.bool !r) [] 0 | none => .bad "neq")
 | _ => .bad "binOp"
theorem aPtr_ok {P : Program} {E : Env} {G : Gh} {n : Nat} {w : World} (h : HR P E G w) (op : BinOp) (t yt : TypeId) (x y : Operand) {ev : Operand → Value} {a b : Value} {o : Oper} (ho : o.op = .binOp op t x y yt) (ha : VR E a (ev x)) (hb : VR E b (ev y)) :
  Sound1 P E G n w ((execOp ev o).run P w) (aPtr P op t a b G) := by
 unfold aPtr
 split
 ·cases hq : zEp P t a b G with
  | none => trivial
  | some r =>
   obtain ⟨e1, e2, e3⟩ := zJm h ha hb hq
   refine Sound1.pure h (v' := .bool r) ?_ (.bool _)
   simp [execOp, ho, e3, e1]
 ·cases hq : zEp P t a b G with
  | none => trivial
  | some r =>
   obtain ⟨e1, e2, e3⟩ := zJm h ha hb hq
   refine Sound1.pure h (v' := .bool !r) ?_ (.bool _)
   simp [execOp, ho, e3, e2]
 ·trivial
def zLi (op : BinOp) (x y : Value) : Option Value :=
 match x, y with
 | .int k a, .int k' b =>
  bif decide (k = k') then
   (match op with
   | .add => some (.int k (k.wrap (a + b)))
   | .sub => some (.int k (k.wrap (a - b)))
   | .eql => some (.bool (a == b))
   | .neq => some (.bool (a != b))
   | .lss => some (.bool (decide (a < b)))
   | .leq => some (.bool (decide (a ≤ b)))
   | .gtr => some (.bool (decide (a > b)))
   | .geq => some (.bool (decide (a ≥ b)))
   | _ => none)
  else none
 | _, _ => none
def aBin (P : Program) (op : BinOp) (t : TypeId) (x y : Value) : ORes := match zLi op x y with | some v => .val v [] 0 | none => aEq P op t x y
theorem aBin_ok {P : Program} {E : Env} {G : Gh} {n : Nat} {w : World} (h : HR P E G w) (op : BinOp) (t yt : TypeId) (x y : Operand) {ev : Operand → Value} {a b : Value} {o : Oper} (ho : o.op = .binOp op t x y yt) (ha : VR E a (ev x)) (hb : VR E b (ev y)) :
  Sound1 P E G n w ((execOp ev o).run P w) (aBin P op t a b) := by
 unfold aBin
 split
 ·rename_i v hf
  unfold zLi at hf
  split at hf
  ·rename_i k a k' b
   have hx : ev x = .int k a := by cases hv' : ev x <;> rw [hv'] at ha <;> cases ha; rfl
   have hy : ev y = .int k' b := by cases hv' : ev y <;> rw [hv'] at hb <;> cases hb; rfl
   cases hk : decide (k = k') with
   | false => rw [hk] at hf; cases hf
   | true =>
    rw [hk] at hf
    have hk := of_decide_eq_true hk
    subst hk
    simp only [cond_true] at hf
    split at hf <;> cases hf
    all_goals exact Sound1.pure h (by simp [execOp, ho, hx, hy, eqGuard, binOp, Op.intArith, Op.intCmp]; try rfl) (by first | exact .bool _ | exact .int _ _)
  ·cases hf
 ·exact aEq_ok h op t yt x y ho ha hb
def zOg (P : Program) (t : TypeId) (v : Value) (ok : Bool) : ORes :=
 match P.underlying t, v with
 | some (.interface want), .iface dt u => (match P.info? dt with
  | some i => (match Instr.missingMethod want i.methods with
   | none => .val (bif ok then .tuple #[.iface dt u, .bool true] else .iface dt u) [] 0
   | some _ => .bad "assert: missing")
  | none => .bad "assert: type")
 | some (.interface want), .chan (some dt) => (match P.info? dt with
  | some i => (match Instr.missingMethod want i.methods with
   | none => .val (bif ok then .tuple #[.chan (some dt), .bool true] else .chan (some dt)) [] 0
   | some _ => .bad "assert: missing")
  | none => .bad "assert: type")
 | some (.interface _), _ => .bad "assert: nil"
 | some _, .iface dt u => bif dt.beq t then .val (bif ok then .tuple #[u, .bool true] else u) [] 0 else
   (bif ok then (match P.info? t with
    | some i => (match i.zero with | some z => bif plainV 8 z then .val (.tuple #[z, .bool false]) [] 0 else .bad "assert: zero" | none => .bad "assert: no zero")
    | none => .bad "assert: type") else .bad "assert: fails")
 | _, _ => .bad "assert"
theorem zRp {P : Program} {E : Env} {G : Gh} {n : Nat} {w : World} (h : HR P E G w) (x : Operand) (st t : TypeId) (ok : Bool) {ev : Operand → Value} {v : Value} {o : Oper} (ho : o.op = .typeAssert x st t ok) (hv : VR E v (ev x)) :
  Sound1 P E G n w ((execOp ev o).run P w) (zOg P t v ok) := by
 unfold zOg
 split
 ·rename_i want dt u hu
  obtain ⟨u', hev, hr⟩ : ∃ u', ev x = .iface dt u' ∧ VR E u u' := by cases hv' : ev x <;> rw [hv'] at hv <;> cases hv; exact ⟨_, rfl, ‹_›⟩
  cases hi : P.info? dt with
  | none => trivial
  | some i =>
   simp only []
   cases hm : Instr.missingMethod want i.methods with
   | some _ => trivial
   | none =>
    cases ok
    ·exact Sound1.pure h (v' := .iface dt u') (by simp [execOp, ho, hev, Instr.typeAssert, run_underlying hu, typeInfo, hi, hm]) (.iface _ _ _ hr)
    ·exact Sound1.pure h (v' := .tuple #[.iface dt u', .bool true]) (by simp [execOp, ho, hev, Instr.typeAssert, run_underlying hu, typeInfo, hi, hm]) (.tuple _ _ (.cons _ _ _ _ (.iface _ _ _ hr) (.cons _ _ _ _ (.bool _) .nil)))
 ·rename_i want dt hu
  obtain ⟨u', hev⟩ : ∃ u', ev x = .iface dt (.agg u') := by cases hv' : ev x <;> rw [hv'] at hv <;> cases hv; exact ⟨_, rfl⟩
  cases hi : P.info? dt with
  | none => trivial
  | some i =>
   simp only []
   cases hm : Instr.missingMethod want i.methods with
   | some _ => trivial
   | none =>
    cases ok
    ·exact Sound1.pure h (v' := .iface dt (.agg u')) (by simp [execOp, ho, hev, Instr.typeAssert, run_underlying hu, typeInfo, hi, hm]) (.ub _ _)
    ·exact Sound1.pure h (v' := .tuple #[.iface dt (.agg u'), .bool true]) (by simp [execOp, ho, hev, Instr.typeAssert, run_underlying hu, typeInfo, hi, hm]) (.tuple _ _ (.cons _ _ _ _ (.ub _ _) (.cons _ _ _ _ (.bool _) .nil)))
 ·trivial
 ·rename_i d dt u hn hu
  obtain ⟨u', hev, hr⟩ : ∃ u', ev x = .iface dt u' ∧ VR E u u' := by cases hv' : ev x <;> rw [hv'] at hv <;> cases hv; exact ⟨_, rfl, ‹_›⟩
  have hrun : (Instr.typeAssert (.iface dt u') st t ok).run P w = (if dt = t then (Pure.pure (if ok then .tuple #[u', .bool true] else u') : Sem Value) else (if ok then (do pure (.tuple #[← zeroValue t, .bool false])) else runtimePanic (.typeAssertion (some st) (some dt) t ""))).run P w := by
   unfold Instr.typeAssert
   simp only [Sem.run_bind, run_underlying hu, Result.andThen_ok]
  cases he : dt.beq t with
  | true =>
   have he : dt = t := Nat.eq_of_beq_eq_true he
   rw [if_pos he] at hrun
   cases ok
   ·exact Sound1.pure h (v' := u') (by simp [execOp, ho, hev, hrun]) hr
   ·exact Sound1.pure h (v' := .tuple #[u', .bool true]) (by simp [execOp, ho, hev, hrun]) (.tuple _ _ (.cons _ _ _ _ hr (.cons _ _ _ _ (.bool _) .nil)))
  | false =>
   have he : dt ≠ t := fun e => by rw [e] at he; simp at he
   rw [if_neg he] at hrun
   cases ok
   ·trivial
   ·simp only [cond_true, cond_false]
    cases hi : P.info? t with
    | none => trivial
    | some i =>
     simp only []
     cases hz : i.zero with
     | none => trivial
     | some z =>
      simp only []
      cases hp : plainV 8 z with
      | false => trivial
      | true =>
       refine Sound1.pure h (v' := .tuple #[z, .bool false]) ?_ (.tuple _ _ (.cons _ _ _ _ (zAg 8 hp) (.cons _ _ _ _ (.bool _) .nil)))
       simp [zeroValue, typeInfo, hi, hz] at hrun
       simp [execOp, ho, hev, hrun]
 ·trivial
def aPanic (v : Value) : ORes := match v with | .iface t u => .pan (.iface t u) | _ => .bad "panic"
theorem aPanic_ok {P : Program} {E : Env} {G : Gh} {n : Nat} {w : World} (x : Operand) {ev : Operand → Value} {v : Value} {o : Oper} (ho : o.op = .panic x) (hv : VR E v (ev x)) :
  Sound1 P E G n w ((execOp ev o).run P w) (aPanic v) := by
 unfold aPanic
 split
 ·rename_i t u
  obtain ⟨u', hev, hr⟩ : ∃ u', ev x = .iface t u' ∧ VR E u u' := by cases hv' : ev x <;> rw [hv'] at hv <;> cases hv; exact ⟨_, rfl, ‹_›⟩
  exact ⟨.iface t u', w, by simp [execOp, ho, hev, Instr.panic], .iface _ _ _ hr, .inl rfl⟩
 ·trivial
def ORes.or (a b : ORes) : ORes := match a with | .bad _ => b | r => r
theorem Sound1.or {P : Program} {E : Env} {G : Gh} {n : Nat} {w : World} {r : Result Next} {a b : ORes} (ha : Sound1 P E G n w r a) (hb : Sound1 P E G n w r b) : Sound1 P E G n w r (a.or b) := by
 cases a with
 | bad _ => exact hb
 | _ => exact ha
def maxI (x y : Int) : Int := if y > x then y else x
def minI (x y : Int) : Int := if y < x then y else x
def zCo (P : Program) (b : Builtin) (ts : List TypeId) (as : List Value) (G : Gh) (n : Nat) : ORes :=
 match b, ts, as with
 | .len, [t], [v] => aLen P t v G
 | .append, [sT, xT], [s, x] => zEf P sT xT s x G n
 | .copy, [t, _], [d, x] => aCopy P t d x G
 | .delete, [t, _], [m, k] => zLg P t m k G
 | .clear, [t], [d] => zPw P t d G
 | .cap, [t], [v] => aCap P t v
 | .max, _, [.int k x, .int _ y] => .val (.int k (maxI x y)) [] 0
 | .min, _, [.int k x, .int _ y] => .val (.int k (minI x y)) [] 0
 | _, _, _ => .bad "builtin"
theorem zOh {P : Program} {E : Env} {G : Gh} {n : Nat} {w : World} (h : HR P E G w) {b : Builtin} {ts : Array TypeId} {as : Array Operand} {ev ev' : Operand → Value} {o : Oper} (ho : o.op = .call { callee := .builtin b, args := as, argTypes := ts }) (hv : ∀ x ∈ o.op.operands, VR E (ev x) (ev' x)) :
  Sound1 P E G n w ((execOp ev' o).run P w) (zCo P b ts.toList (as.toList.map ev) G n) := by
 have ha : ∀ x ∈ as, VR E (ev x) (ev' x) := fun x hx => hv x (by rw [ho]; simp [Op.operands, Call.operands, hx])
 rw [zNt ho]
 unfold zCo
 have one : ∀ {l : List TypeId}, ts.toList = l → ts = l.toArray := fun h => by rw [← h]
 split
 ·rename_i t v ht hav
  obtain ⟨x, hx, rfl⟩ : ∃ x, as = #[x] ∧ ev x = v := by
   obtain ⟨l⟩ := as
   match l, hav with
   | [x], h => exact ⟨x, rfl, by simpa using h⟩
  subst hx
  rw [one ht]
  simpa using aLen_ok h t o.type _ (ha x (by simp))
 ·rename_i sT xT s x ht hav
  obtain ⟨a, b, hx, rfl, rfl⟩ : ∃ a b, as = #[a, b] ∧ ev a = s ∧ ev b = x := by
   obtain ⟨l⟩ := as
   match l, hav with
   | [a, b], h => simp at h; exact ⟨a, b, rfl, h.1, h.2⟩
  subst hx
  rw [one ht]
  have := zRo (nn := n) h sT xT o.type (ha a (by simp)) (ha b (by simp))
  simpa [builtin] using this
 ·rename_i t xT d x ht hav
  obtain ⟨a, b, hx, rfl, rfl⟩ : ∃ a b, as = #[a, b] ∧ ev a = d ∧ ev b = x := by
   obtain ⟨l⟩ := as
   match l, hav with
   | [a, b], h => simp at h; exact ⟨a, b, rfl, h.1, h.2⟩
  subst hx
  rw [one ht]
  have := aCopy_ok (nn := n) h t xT o.type (ha a (by simp)) (ha b (by simp))
  simpa [builtin] using this
 ·rename_i t xT m k ht hav
  obtain ⟨a, b, hx, rfl, rfl⟩ : ∃ a b, as = #[a, b] ∧ ev a = m ∧ ev b = k := by
   obtain ⟨l⟩ := as
   match l, hav with
   | [a, b], h => simp at h; exact ⟨a, b, rfl, h.1, h.2⟩
  subst hx
  rw [one ht]
  have := zRq (n := n) h t xT o.type (ha a (by simp)) (ha b (by simp))
  simpa [builtin] using this
 ·rename_i t d ht hav
  obtain ⟨x, hx, rfl⟩ : ∃ x, as = #[x] ∧ ev x = d := by
   obtain ⟨l⟩ := as
   match l, hav with
   | [x], h => exact ⟨x, rfl, by simpa using h⟩
  subst hx
  rw [one ht]
  have := aClear_ok (nn := n) h t o.type (ha x (by simp))
  simpa [builtin] using this
 ·rename_i t v ht hav
  obtain ⟨x, hx, rfl⟩ : ∃ x, as = #[x] ∧ ev x = v := by
   obtain ⟨l⟩ := as
   match l, hav with
   | [x], h => exact ⟨x, rfl, by simpa using h⟩
  subst hx
  rw [one ht]
  simpa using aCap_ok h t o.type _ (ha x (by simp))
 ·rename_i k x k' y hav
  obtain ⟨a, b, hx, e1, e2⟩ : ∃ a b, as = #[a, b] ∧ ev a = .int k x ∧ ev b = .int k' y := by
   obtain ⟨l⟩ := as
   have hl : l.length = 2 := by have := congrArg List.length hav; simpa using this
   match l, hl with
   | [a, b], _ => simp at hav; exact ⟨a, b, rfl, hav.1, hav.2⟩
  subst hx
  have v1 := VR.int_eq (e1 ▸ ha a (by simp))
  have v2 := VR.int_eq (e2 ▸ ha b (by simp))
  refine Sound1.pure h (v' := .int k (maxI x y)) ?_ (.int _ _)
  simp [builtin, v1, v2, run_max_int2, maxI]
 ·rename_i k x k' y hav
  obtain ⟨a, b, hx, e1, e2⟩ : ∃ a b, as = #[a, b] ∧ ev a = .int k x ∧ ev b = .int k' y := by
   obtain ⟨l⟩ := as
   have hl : l.length = 2 := by have := congrArg List.length hav; simpa using this
   match l, hl with
   | [a, b], _ => simp at hav; exact ⟨a, b, rfl, hav.1, hav.2⟩
  subst hx
  have v1 := VR.int_eq (e1 ▸ ha a (by simp))
  have v2 := VR.int_eq (e2 ▸ ha b (by simp))
  refine Sound1.pure h (v' := .int k (minI x y)) ?_ (.int _ _)
  simp [builtin, v1, v2, run_min_int2, minI]
 ·trivial
def zEs (P : Program) (src dst : TypeId) (v : Value) (G : Gh) (n : Nat) : ORes :=
 match v with
 | .slice _ _ _ => zQb P src dst v G
 | .string s => zIc P src dst s n
 | _ => .bad "convert"
theorem zOi {P : Program} {E : Env} {G : Gh} {n : Nat} {w : World} (h : HR P E G w) (src dst : TypeId) (x : Operand) {ev : Operand → Value} {v : Value} {o : Oper} (ho : o.op = .convert src dst x) (hv : VR E v (ev x)) :
  Sound1 P E G n w ((execOp ev o).run P w) (zEs P src dst v G n) := by
 unfold zEs
 split
 ·exact aToStr_ok h src dst x ho ⟨_, _, _, rfl⟩ hv
 ·exact zOl h src dst x ho hv
 ·trivial
def aStr (P : Program) (o : Oper) (ev : Operand → Value) : ORes :=
 match o.op with
 | .index t x y => (match P.underlying t, ev x, ev y with
  | some .string, .string s, .int _ i => bif decide (0 ≤ i) then (match s.data.toList[i.toNat]? with | some b => .val (.int .u8 b.toNat) [] 0 | none => .bad "string: index") else .bad "string: index"
  | _, _, _ => .bad "string")
 | .slice t x lo hi none => (match P.underlying t, ev x with
  | some .string, .string s => (match sbound (hi.map ev) s.data.size s.data.size with
   | some h => (match sbound (lo.map ev) h 0 with | some l => .val (.string ⟨((s.data.toList.take h).drop l).toArray⟩) [] 0 | none => .bad "string: low")
   | none => .bad "string: high")
  | _, _ => .bad "string")
 | .call c => (match c.callee, c.argTypes.toList, c.args.toList with
  | .builtin .len, [t], [x] => (match P.underlying t, ev x with | some .string, .string s => .val (.int .i64 s.data.size) [] 0 | _, _ => .bad "string")
  | _, _, _ => .bad "string")
 | .binOp .eql _ x y _ => (match ev x, ev y with | .string a, .string b => .val (.bool (a.data.toList == b.data.toList)) [] 0 | _, _ => .bad "string")
 | .binOp .neq _ x y _ => (match ev x, ev y with | .string a, .string b => .val (.bool !(a.data.toList == b.data.toList)) [] 0 | _, _ => .bad "string")
 | _ => .bad "string"
theorem VR.str_inv {E : Env} {s : ByteArray} {v : Value} (h : VR E (.string s) v) : v = .string s := by cases h; rfl
theorem VR.int_inv {E : Env} {k : IntKind} {i : Int} {v : Value} (h : VR E (.int k i) v) : v = .int k i := by cases h; rfl
theorem zEk (s : ByteArray) : s.toList = s.data.toList := ByteArray.toList_eq s
theorem zOp (s : ByteArray) (l h : Nat) : s.extract l h = ⟨((s.data.toList.take h).drop l).toArray⟩ := by
 apply ByteArray.ext
 apply Array.toList_inj.1
 rw [ByteArray.data_extract, Array.toList_extract, List.extract_eq_take_drop]
 simp [List.drop_take]
theorem aStr_ok {P : Program} {E : Env} {G : Gh} {n : Nat} {w : World} (h : HR P E G w) {o : Oper} {ev ev' : Operand → Value} (hv : ∀ x ∈ o.op.operands, VR E (ev x) (ev' x)) :
  Sound1 P E G n w ((execOp ev' o).run P w) (aStr P o ev) := by
 unfold aStr
 split
 ·rename_i t x y ho
  have hx := hv x (by rw [ho]; simp [Op.operands])
  have hy := hv y (by rw [ho]; simp [Op.operands])
  split
  ·rename_i s k i hu h1 h2
   rw [h1] at hx; rw [h2] at hy
   have ex := hx.str_inv
   have ey := hy.int_inv
   cases hi : decide (0 ≤ i) with
   | false => trivial
   | true =>
    have hi := of_decide_eq_true hi
    simp only [cond_true]
    split
    ·rename_i b hb
     have hb' : s[i.toNat]? = some b := by
      rw [← hb, Array.getElem?_toList]
      rfl
     exact Sound1.pure h (by simp [execOp, ho, ex, ey, Instr.index, asIntOf, run_underlying hu, hi, hb']) (.int _ _)
    ·trivial
  ·trivial
 ·rename_i t x lo hi ho
  have hx := hv x (by rw [ho]; simp [Op.operands])
  have hlo : ∀ y, lo = some y → VR E (ev y) (ev' y) := fun y hy => hv y (by rw [ho, hy]; simp [Op.operands])
  have hhi : ∀ y, hi = some y → VR E (ev y) (ev' y) := fun y hy => hv y (by rw [ho, hy]; cases lo <;> simp [Op.operands])
  split
  ·rename_i s hu h1
   rw [h1] at hx
   have ex := hx.str_inv
   split
   ·rename_i hh hbh
    split
    ·rename_i ll hbl
     have same : ∀ (z : Option Operand), (∀ y, z = some y → VR E (ev y) (ev' y)) → ∀ y d r, sbound (z.map ev) y d = some r → sbound (z.map ev') y d = some r := by
      intro z hz y d r hs
      cases z with
      | none => exact hs
      | some q =>
       have hq := hz q rfl
       simp only [Option.map_some] at hs ⊢
       cases hq' : ev q <;> rw [hq'] at hs hq <;> simp only [sbound] at hs <;> first | (rw [hq.int_inv]; exact hs) | cases hs
     have hb := zBr (P := P) (w := w) (isS := false) (len := s.data.size) (cap := s.data.size) (mx := none) rfl (same hi hhi _ _ _ hbh) (fun e => by cases e) (same lo hlo _ _ _ hbl)
     have hb : (Instr.sliceBounds false s.size s.size (lo.map ev') (hi.map ev') none).run P w = .ok (ll, hh, s.data.size) w := hb
     refine Sound1.pure h (v' := .string (s.extract ll hh)) ?_ (by rw [zOp]; exact .string _)
     simp [execOp, ho, ex, Instr.sliceAt, Instr.slice, run_underlying hu, hb]
    ·trivial
   ·trivial
  ·trivial
 ·rename_i c ho
  obtain ⟨callee, args, argTypes⟩ := c
  split
  ·rename_i t x hcl hts has
   have hcl : callee = .builtin .len := hcl
   have hts : argTypes.toList = [t] := hts
   have has : args.toList = [x] := has
   obtain rfl : argTypes = #[t] := by rw [← hts]
   obtain rfl : args = #[x] := by rw [← has]
   subst hcl
   have hx := hv x (by rw [ho]; simp [Op.operands, Call.operands])
   split
   ·rename_i s hu h1
    rw [h1] at hx
    exact Sound1.pure h (v' := .int .i64 s.data.size) (by rw [zNt ho]; simp [builtin, Builtin.len_, run_underlying hu, hx.str_inv, goInt]; try rfl) (.int _ _)
   ·trivial
  ·trivial
 ·rename_i t x y yt ho
  have hx := hv x (by rw [ho]; simp [Op.operands])
  have hy := hv y (by rw [ho]; simp [Op.operands])
  split
  ·rename_i a b h1 h2
   rw [h1] at hx; rw [h2] at hy
   exact Sound1.pure h (by simp [execOp, ho, hx.str_inv, hy.str_inv, eqGuard, binOp, Op.stringOp, zEk]; try rfl) (.bool _)
  ·trivial
 ·rename_i t x y yt ho
  have hx := hv x (by rw [ho]; simp [Op.operands])
  have hy := hv y (by rw [ho]; simp [Op.operands])
  split
  ·rename_i a b h1 h2
   rw [h1] at hx; rw [h2] at hy
   exact Sound1.pure h (by simp [execOp, ho, hx.str_inv, hy.str_inv, eqGuard, binOp, Op.stringOp, zEk]; try rfl) (.bool _)
  ·trivial
 ·trivial
def aop0 (P : Program) (o : Oper) (ev : Operand → Value) (G : Gh) (n : Nat) : ORes :=
 match o.op with
 | .move x | .assign x => .val (ev x) [] 0
 | .pick c a b => aPick (ev c) (ev a) (ev b)
 | .alloc e => aAlloc P e n
 | .box e x => aBox P e (ev x) n
 | .build t ps => zKh P t (pvals ev ps)
 | .buildSlice t l ps => zCi P t l (pvals ev ps) n
 | .load t a => zKc P t (ev a) G
 | .store t a x => zQa P t (ev a) (ev x) G
 | .nilCheck x => (aNil (ev x)).or (zEg P ev o)
 | .binOp op t x y _ => ((aBin P op t (ev x) (ev y)).or (aPtr P op t (ev x) (ev y) G)).or (zEg P ev o)
 | .extract x k => zLh (ev x) k
 | .field t x k => aField P t (ev x) k
 | .fieldAddr t x k => zGv P t (ev x) k
 | .indexAddr t x y => zBy P t (ev x) (ev y)
 | .index t x y => (aIndex P t (ev x) (ev y)).or (zEg P ev o)
 | .slice t x lo hi mx => (zEh P t (ev x) (lo.map ev) (hi.map ev) (mx.map ev) G).or (zEg P ev o)
 | .makeInterface t x => aMkI P t (ev x)
 | .makeFunc fn as cs => aMkF fn (as.toList.map ev) (cs.toList.map ev)
 | .makeMap _ r => zPx n (r.map ev)
 | .makeSlice t l c => aMake P t (ev l) (ev c) n
 | .lookup t x y ok => (zFn P t (ev x) (ev y) ok G).or (zEg P ev o)
 | .mapUpdate t x y z | .insert t x y z => zEi P t (ev x) (ev y) (ev z) G
 | .typeAssert x _ t ok => (zOg P t (ev x) ok).or (zEg P ev o)
 | .convert s d x => (zEs P s d (ev x) G n).or (zEg P ev o)
 | .panic x => aPanic (ev x)
 | .range t x => aRange P t (ev x) G n
 | .call c => (match c.callee with
  | .builtin b => (zCo P b c.argTypes.toList (c.args.toList.map ev) G n).or (zEg P ev o)
  | _ => .bad "call")
 | _ => zEg P ev o
theorem aop0_ok {P : Program} {E : Env} {G : Gh} {n : Nat} {w : World} (h : HR P E G w) {o : Oper} {ev ev' : Operand → Value} (hv : ∀ x ∈ o.op.operands, VR E (ev x) (ev' x)) :
  Sound1 P E G n w ((execOp ev' o).run P w) (aop0 P o ev G n) := by
 have hp := aPure_ok (n := n) h hv
 unfold aop0
 split
 case h_1 x ho => exact zPy h x (.inl ho) (hv x (by rw [ho]; simp [Op.operands]))
 case h_2 x ho => exact zPy h x (.inr ho) (hv x (by rw [ho]; simp [Op.operands]))
 case h_3 c a b ho => exact aPick_ok h c a b ho (hv _ (by rw [ho]; simp [Op.operands])) (hv _ (by rw [ho]; simp [Op.operands])) (hv _ (by rw [ho]; simp [Op.operands]))
 case h_4 e ho => exact aAlloc_ok h e ho
 case h_5 e x ho => exact aBox_ok h e x ho (hv _ (by rw [ho]; simp [Op.operands]))
 case h_6 t ps ho => exact aBuild_ok h t ps ho hv
 case h_7 t l ps ho => exact zKb h t l ps ho hv
 case h_8 t a ho => exact aLoad_ok h t a ho (hv _ (by rw [ho]; simp [Op.operands]))
 case h_9 t a x ho => exact aStore_ok h t a x ho (hv _ (by rw [ho]; simp [Op.operands])) (hv _ (by rw [ho]; simp [Op.operands]))
 case h_10 x ho => exact (aNil_ok h x ho (hv _ (by rw [ho]; simp [Op.operands]))).or hp
 case h_11 op t x y yt ho => exact ((aBin_ok h op t yt x y ho (hv _ (by rw [ho]; simp [Op.operands])) (hv _ (by rw [ho]; simp [Op.operands]))).or (aPtr_ok h op t yt x y ho (hv _ (by rw [ho]; simp [Op.operands])) (hv _ (by rw [ho]; simp [Op.operands])))).or hp
 case h_12 x k ho => exact zOj h x k ho (hv _ (by rw [ho]; simp [Op.operands]))
 case h_13 t x k ho => exact aField_ok h t x k ho (hv _ (by rw [ho]; simp [Op.operands]))
 case h_14 t x k ho => exact zLj h t x k ho (hv _ (by rw [ho]; simp [Op.operands]))
 case h_15 t x y ho => exact zLk h t x y ho (hv _ (by rw [ho]; simp [Op.operands])) (hv _ (by rw [ho]; simp [Op.operands]))
 case h_16 t x y ho => exact (aIndex_ok h t x y ho (hv _ (by rw [ho]; simp [Op.operands])) (hv _ (by rw [ho]; simp [Op.operands]))).or hp
 case h_17 t x lo hi mx ho => exact (aSlice_ok h t x lo hi mx ho hv).or hp
 case h_18 t x ho => exact aMkI_ok h t x ho (hv _ (by rw [ho]; simp [Op.operands]))
 case h_19 fn as cs ho => exact aMkF_ok h fn as cs ho hv
 case h_20 t r ho => exact zOk h t r ho
 case h_21 t l c ho => exact aMake_ok h t l c ho (hv _ (by rw [ho]; simp [Op.operands])) (hv _ (by rw [ho]; simp [Op.operands]))
 case h_22 t x y ok ho => exact (zRr h t x y ok ho (hv _ (by rw [ho]; simp [Op.operands])) (hv _ (by rw [ho]; simp [Op.operands]))).or hp
 case h_23 t x y z ho => exact zGw h t x y z (.inl ho) (hv _ (by rw [ho]; simp [Op.operands])) (hv _ (by rw [ho]; simp [Op.operands])) (hv _ (by rw [ho]; simp [Op.operands]))
 case h_24 t x y z ho => exact zGw h t x y z (.inr ho) (hv _ (by rw [ho]; simp [Op.operands])) (hv _ (by rw [ho]; simp [Op.operands])) (hv _ (by rw [ho]; simp [Op.operands]))
 case h_25 x st t ok ho => exact (zRp h x st t ok ho (hv _ (by rw [ho]; simp [Op.operands]))).or hp
 case h_26 s d x ho => exact (zOi h s d x ho (hv _ (by rw [ho]; simp [Op.operands]))).or hp
 case h_27 x ho => exact aPanic_ok x ho (hv _ (by rw [ho]; simp [Op.operands]))
 case h_28 t x ho => exact aRange_ok h t x ho (hv _ (by rw [ho]; simp [Op.operands]))
 case h_29 c ho =>
  obtain ⟨callee, args, argTypes⟩ := c
  cases callee with
  | builtin b => exact (zOh h ho hv).or hp
  | _ => trivial
 case h_30 => exact hp
def aop (P : Program) (o : Oper) (ev : Operand → Value) (G : Gh) (n : Nat) : ORes := (aStr P o ev).or (aop0 P o ev G n)
theorem zKl {P : Program} {E : Env} {G : Gh} {n : Nat} {w : World} (h : HR P E G w) {o : Oper} {ev ev' : Operand → Value} (hv : ∀ x ∈ o.op.operands, VR E (ev x) (ev' x)) :
  Sound1 P E G n w ((execOp ev' o).run P w) (aop P o ev G n) := (aStr_ok h hv).or (aop0_ok h hv)
end Go.Proofs.Ytpdeidlkeplegaa
namespace Go.Proofs.Ytpdeidlkeplegaa
open Go.RowKit
inductive ADf where
 | mark (d : Nat)
 | call (f : FuncId) (cap args : List Value)
structure Fs where
 T : Tr Value
 H : Tr AObj
 n : Nat
 wr : List Nat
 df : List ADf
inductive Ex where
 | normal
 | exit (id : Nat)
 | goto (l : Nat)
 | ret
 | pan (ch : List (Value × Bool))
inductive Task where
 | code (nt : Nat) (rd : Option Nat) (c : Code)
 | loop (nt : Nat) (rd : Option Nat) (c : Code)
 | call (f : FuncId) (args : List Value)
 | dcall (f : FuncId) (args : List Value) (u : Option (List (Value × Bool)))
inductive Res where
 | code (x : Ex) (s : Fs)
 | ret (v : Value) (H : Tr AObj) (n : Nat) (wr : List Nat)
 | pan (ch : List (Value × Bool)) (H : Tr AObj) (n : Nat) (wr : List Nat)
 | bad (why : String) (tr : List Nat)
def aev (T : Tr Value) : Operand → Value
 | .tmp t => (T.get t).getD undef
 | .const v => v
 | .global g => .pointer (some ⟨g, 0, none⟩)
 | .func f => .func (.func f) #[] #[]
def okX (g0 : Nat) : Operand → Bool
 | .tmp _ => true
 | .const v => plainV 8 v
 | .global g => Nat.blt g g0
 | .func _ => true
def okOps (g0 : Nat) (o : Oper) : Bool := o.op.operands.toList.all (okX g0)
def guardOk (ops : Array Oper) (T : Tr Value) (o : Oper) : Bool :=
 match o.guard with
 | none => true
 | some (j, want) =>
  match (ops[j]?).bind (·.dst) with
  | some t => (match T.get t with | some (.bool b) => b == want | _ => false)
  | none => false
def putT (nt : Nat) (T : Tr Value) (dst : Option Tmp) (v : Value) : Option (Tr Value) :=
 match dst with
 | none => some T
 | some d => bif Nat.blt d nt then some (T.set d (some v)) else none
def applyUs (H : Tr AObj) : List (Nat × Option AObj) → Tr AObj
 | [] => H
 | (k, x) :: us => applyUs (H.set k x) us
def keysOk (n k : Nat) (us : List (Nat × Option AObj)) (G : Gh) : Bool := k.ble 1 && (us.all fun u => (G u.1).isSome || (u.1.beq n && k.beq 1)) && (k.beq 0 || us.any fun u => u.1.beq n)
def callable (P : Program) (f : FuncId) : Bool := match P.funcs[f]? with | some fn => fn.body.isSome && !(fn.name == "runtime.NumGoroutine") | none => false
inductive CallTo where
 | fn (f : FuncId) (args : List Value)
 | yield (l : Nat) (args : List Value)
 | no
def zJl (P : Program) (t : TypeId) (name : String) : Option FuncId :=
 match P.info? t with
 | some i => (match i.methods.find? (·.name == name) with
  | some m => bif m.path.isEmpty then (match m.func, P.underlying t with
   | some (f, true), some (.pointer _) => some f
   | some (f, false), some (.struct _) => some f
   | _, _ => none) else none
  | none => none)
 | none => none
def callTo (P : Program) (ev : Operand → Value) (c : Call) : CallTo :=
 match c.callee with
 | .value g =>
  (match ev g with
  | .func (.func f) first cap => .fn f (first.toList ++ c.args.toList.map ev ++ cap.toList)
  | .func (.yield l) _ _ => .yield l (c.args.toList.map ev)
  | _ => .no)
 | .invoke x name => (match ev x with
  | .iface t v => (match zJl P t name with | some f => .fn f (v :: c.args.toList.map ev) | none => .no)
  | _ => .no)
 | _ => .no
def zCd (o : Oper) : Option Call := match o.op with | .call c => (match c.callee with | .builtin _ => none | _ => some c) | _ => none
def zBp (o : Oper) : Bool := match o.op with | .defer _ => true | _ => false
theorem zDp {o : Oper} (h : zBp o = false) : ∀ c, o.op ≠ .defer c := fun c e => by simp [zBp, e] at h
def tmpsOf : List Value → Nat → Tr Value → Tr Value
 | [], _, T => T
 | v :: l, k, T => tmpsOf l (k + 1) (T.set k (some v))
def zipSet (nt : Nat) : List (Tmp × Value) → Tr Value → Option (Tr Value)
 | [], T => some T
 | (t, v) :: l, T => bif Nat.blt t nt then zipSet nt l (T.set t (some v)) else none
def own (n n' : Nat) (wr : List Nat) : List Nat := wr.filter fun k => !(n.ble k && Nat.blt k n')
section
variable (P : Program) (g0 : Nat) (rec : Task → Fs → Res)
def zLx (l : Nat) (args : List Value) (H : Tr AObj) (n : Nat) : Res :=
 match H.get l with
 | some (.loop r) =>
  bif args.length.beq r.params.size then
   match zipSet r.nt (r.params.toList.zip args) r.T with
   | some T =>
    match rec (.code r.nt (some l) r.assign) ⟨T, H, n, [], []⟩ with
    | .code .normal s1 =>
     (match s1.H.get l with
     | some (.loop r1) =>
      (match r1.state with
      | .ready =>
       (match rec (.code r.nt (some l) r.body) { s1 with H := s1.H.set l (some (.loop { r1 with state := .busy })), wr := l :: s1.wr } with
       | .code x s2 =>
        (match s2.H.get l with
        | some (.loop r2) =>
         (match s2.df with
         | [] =>
          (match x with
          | .normal => .ret (.bool true) (s2.H.set l (some (.loop { r2 with state := .ready, pend := none }))) s2.n (l :: s2.wr)
          | .ret => .ret (.bool false) (s2.H.set l (some (.loop { r2 with state := .done, pend := some .ret }))) s2.n (l :: s2.wr)
          | .exit id => .ret (.bool false) (s2.H.set l (some (.loop { r2 with state := .done, pend := some (.exit id) }))) s2.n (l :: s2.wr)
          | .goto t => .ret (.bool false) (s2.H.set l (some (.loop { r2 with state := .done, pend := some (.goto t) }))) s2.n (l :: s2.wr)
          | .pan _ => .bad "round: panic" [])
         | _ => .bad "round: defer" [])
        | _ => .bad "round: no loop behind" [])
       | .bad m tr => .bad m tr
       | _ => .bad "round: body" [])
      | _ => .bad "round: not ready" [])
     | _ => .bad "round: no loop within" [])
    | .bad m tr => .bad m tr
    | _ => .bad "round: assign" []
   | none => .bad "round: slots" []
  else .bad "round: arguments" []
 | _ => .bad "round: no loop" []
def evExt (f : FuncId) (args : List Value) (H : Tr AObj) (n : Nat) : Res :=
 bif plainL args then
  (match pureR P (callFunc f args.toArray) with
  | .ok (.value v) => bif plainV 8 v then .ret v H n [] else .bad "extern: what it gives" [f]
  | _ => .bad "call: no body" [f])
 else .bad "call: no body" [f]
def zFk (c : CallTo) (H : Tr AObj) (n : Nat) : Res :=
 match c with
 | .fn f args => bif callable P f then rec (.call f args) ⟨.e, H, n, [], []⟩ else evExt P f args H n
 | .yield l args => (match zLx rec l args H n with | .ret v H n' wr => .ret v H n' (own n n' wr) | .bad m tr => .bad m tr | _ => .bad "round" [])
 | .no => .bad "call: of what?" []
def zIu (nt : Nat) (rd : Option Nat) (o : Oper) (s : Fs) : Res :=
 match rd with
 | some _ => .bad "defer: in a round" []
 | none =>
  match o.op with
  | .defer c =>
   (match c.callee with
   | .value g =>
    (match aev s.T g with
    | .func (.func f) first cap =>
     (match putT nt s.T o.dst undef with
     | some T => .code .normal { s with T, df := .call f cap.toList (first.toList ++ c.args.toList.map (aev s.T)) :: s.df }
     | none => .bad "slot" [])
    | _ => .bad "defer: of what?" [])
   | _ => .bad "defer: of what?" [])
  | _ => .bad "defer" []
def evOp (nt : Nat) (rd : Option Nat) (o : Oper) (s : Fs) : Res :=
 bif okOps g0 o then
  match zCd o with
  | some c =>
   (match zFk P rec (callTo P (aev s.T) c) s.H s.n with
   | .ret v H n wr => (match putT nt s.T o.dst v with | some T => .code .normal { s with T, H, n, wr := wr ++ s.wr } | none => .bad "slot" [])
   | .pan ch H n wr => .code (.pan ch) { s with H, n, wr := wr ++ s.wr }
   | .bad m tr => .bad m tr
   | .code _ _ => .bad "call: code" [])
  | none =>
   bif zBp o then zIu nt rd o s else
    (match aop P o (aev s.T) s.H.get s.n with
    | .val v us k => bif keysOk s.n k us s.H.get then (match putT nt s.T o.dst v with | some T => .code .normal { s with T, H := applyUs s.H us, n := s.n + k, wr := us.map (·.1) ++ s.wr } | none => .bad "slot" []) else .bad "names" []
    | .pan v => .code (.pan [(v, false)]) s
    | .bad m => .bad m [])
 else .bad "operand" []
def evOps (nt : Nat) (rd : Option Nat) (ops : Array Oper) : List Nat → Fs → Res
 | [], s => .code .normal s
 | i :: l, s =>
  match ops[i]? with
  | none => evOps nt rd ops l s
  | some o =>
   bif guardOk ops s.T o then
    match evOp P g0 rec nt rd o s with
    | .code .normal s' => evOps nt rd ops l s'
    | .code x s' => .code x s'
    | .bad m tr => .bad m tr
    | _ => .bad "operation" []
   else match putT nt s.T o.dst undef with
    | some T => evOps nt rd ops l { s with T }
    | none => .bad "slot" []
def preOf (acc : List Nat) (es : List Edge) : Nat := es.foldl (fun s e => bif Region.binds .any e then s ||| 2 ^ e.on ||| acc.getD e.on 0 else s) 0
def preAll : List Oper → List Nat → List Nat
 | [], acc => acc
 | o :: l, acc => preAll l (acc ++ [preOf acc o.after.toList])
structure Rec where
 i : Nat
 v : Value
 lo : Nat
 hi : Nat
 W : List Nat
 ids : Option (List Nat)
 Hin : Tr AObj
 Hout : Tr AObj
def inK (r : Rec) (k : Nat) : Bool := r.W.elem k || (r.lo.ble k && Nat.blt k r.hi)
def seqL : Nat → Nat → List Nat
 | _, 0 => []
 | lo, n + 1 => lo :: seqL (lo + 1) n
def apartR (r r' : Rec) : Bool :=
 match r'.ids with
 | some l => l.all fun k => !inK r k
 | none => (r.W.all fun k => (r'.Hin.get k).isNone) && (match r.ids with | some _ => (seqL r.lo (r.hi - r.lo)).all fun k => (r'.Hin.get k).isNone | none => false)
def apartW (r r' : Rec) : Bool := (r.W.all fun k => !inK r' k) && (r'.W.all fun k => !inK r k) && (r.hi.ble r'.lo || r'.hi.ble r.lo)
def freeOf (pre : List Nat) (i j : Nat) : Bool := !(Nat.testBit (pre.getD i 0) j) && !(Nat.testBit (pre.getD j 0) i)
def fits (pre : List Nat) (r : Rec) (rs : List Rec) : Bool := rs.all fun r' => !(freeOf pre r.i r'.i) || (apartR r r' && apartR r' r && apartW r r')
def regOk (ops : Array Oper) (pre : List Nat) : Bool :=
 (seqL 0 ops.size).all fun i => (seqL 0 i).all fun j => !(freeOf pre i j) || (match ops[i]?, ops[j]? with | some x, some y => x.apart ops y | _, _ => false)
def idsV : Value → List Nat
 | .pointer (some a) => [a.block]
 | .slice (some a) _ _ => [a.block]
 | .map (some r) => [r]
 | _ => []
def blind (o : Oper) : Bool := match o.op with
 | .load _ _ | .store _ _ _ | .slice _ _ _ _ _ | .lookup _ _ _ _ | .mapUpdate _ _ _ _ | .insert _ _ _ _ | .convert _ _ _ | .call _ | .mapEntry _ _ _ | .entryStore _ _ _ _ | .range _ _ | .next _ _ | .entry _ => false
 | _ => true
def idsOf (ev : Operand → Value) (o : Oper) : List Nat := bif blind o then [] else o.op.operands.toList.flatMap fun x => idsV (ev x)
def restr (ids : List Nat) (G : Gh) : Gh := fun k => bif ids.elem k then G k else none
def hide (pre : List Nat) (i : Nat) (H : Tr AObj) : List Rec → Tr AObj
 | [] => H
 | r :: rs => hide pre i (bif freeOf pre i r.i then (seqL r.lo (r.hi - r.lo)).foldl (fun H k => H.set k none) H else H) rs
def unhide (pre : List Nat) (i : Nat) (H0 H : Tr AObj) : List Rec → Tr AObj
 | [] => H
 | r :: rs => unhide pre i H0 (bif freeOf pre i r.i then (seqL r.lo (r.hi - r.lo)).foldl (fun H k => H.set k (H0.get k)) H else H) rs
def zEl (nt : Nat) (rd : Option Nat) (ops : Array Oper) (pre : List Nat) : List Nat → Nat → List Rec → Fs → Res
 | [], done, rs, s => bif done.beq (2 ^ ops.size - 1) && rs.length.beq ops.size then .code .normal s else .bad "region: not all" []
 | i :: l, done, rs, s =>
  bif !(done.testBit i) && (pre.getD i 0 &&& done).beq (pre.getD i 0) then
   match ops[i]? with
   | none => .bad "region: no operation" []
   | some o =>
    bif !guardOk ops s.T o then
     (match putT nt s.T o.dst undef with
     | some T => let r : Rec := ⟨i, undef, s.n, s.n, [], some [], .e, s.H⟩
                 bif fits pre r rs then zEl nt rd ops pre l (done ||| 2 ^ i) (r :: rs) { s with T } else .bad "region: clash" [i]
     | none => .bad "slot" [])
    else bif okOps g0 o then
     match zCd o with
     | some c =>
      let Hin := hide pre i s.H rs
      (match zFk P rec (callTo P (aev s.T) c) Hin s.n with
      | .ret v H n wr => (match putT nt s.T o.dst v with
       | some T =>
        let r : Rec := ⟨i, v, s.n, n, wr, none, Hin, H⟩
        bif fits pre r rs && (wr.all fun k => (Hin.get k).isSome) then zEl nt rd ops pre l (done ||| 2 ^ i) (r :: rs) { s with T, H := unhide pre i s.H H rs, n, wr := wr ++ s.wr } else .bad "region: clash" [i]
       | none => .bad "slot" [])
      | .bad m tr => .bad m tr
      | _ => .bad "region: panic" [])
     | none =>
      bif zBp o then .bad "defer" [] else
       let ids := idsOf (aev s.T) o
       (match aop P o (aev s.T) (restr ids s.H.get) s.n with
       | .val v us k => bif keysOk s.n k us (restr ids s.H.get) && ids.all (fun j => Nat.blt j s.n) then (match putT nt s.T o.dst v with
        | some T =>
         let H := applyUs s.H us
         let r : Rec := ⟨i, v, s.n, s.n + k, (us.map (fun u => u.1)).filter (fun j => !(s.n.ble j && Nat.blt j (s.n + k))), some ids, .e, H⟩
         bif fits pre r rs then zEl nt rd ops pre l (done ||| 2 ^ i) (r :: rs) { s with T, H, n := s.n + k, wr := us.map (·.1) ++ s.wr } else .bad "region: clash" [i]
        | none => .bad "slot" []) else .bad "names" []
       | .pan _ => .bad "region: panic" []
       | .bad m => .bad m [])
    else .bad "operand" []
  else .bad "region: order" [i]
def planGo (pre : List Nat) : List (Nat × Bool) → Nat → List Nat → List Nat
 | [], _, acc => acc
 | (i, c) :: l, done, acc =>
  bif c then
   let need := (seqL 0 i).filter fun j => Nat.testBit (pre.getD i 0) j && !(Nat.testBit done j)
   planGo pre l (done ||| pre.getD i 0 ||| 2 ^ i) (acc ++ need ++ [i])
  else planGo pre l done acc
def planOf (ops : Array Oper) (pre : List Nat) : List Nat :=
 let a := planGo pre (ops.toList.mapIdx fun i o => (i, (zCd o).isSome)) 0 []
 a ++ (seqL 0 ops.size).filter fun j => !(a.elem j)
def zGe (nt : Nat) (rd : Option Nat) (params : Array Tmp) (assign body : Code) (f : FuncId) (first cap : List Value) (s : Fs) (d : Nat) (H1 : Tr AObj) (n1 : Nat) (df1 : List ADf) : Res :=
 match rec (.call f (first ++ [.func (.yield n1) #[] #[]] ++ cap)) ⟨.e, H1.set n1 (some (.loop { state := .ready, pend := none, T := s.T, nt, params, assign, body, defs := d })), n1 + 1, [], []⟩ with
 | .ret _ H n wr =>
  (match H.get n1 with
  | some (.loop r) =>
   let s' : Fs := ⟨s.T, H.set n1 (some (.loop { r with state := .exhausted })), n, n1 :: (wr ++ s.wr), df1⟩
   (match r.state with
   | .busy => .bad "range: busy" []
   | _ => (match r.pend with | none => .code .normal s' | some j => rec (.code nt rd j) s'))
  | _ => .bad "range: the loop is gone" [])
 | .bad m tr => .bad m tr
 | _ => .bad "range: panic" []
def zBj (nt : Nat) (rd : Option Nat) (c : Code) (s : Fs) : Res :=
 match c with
 | .skip | .label _ => .code .normal s
 | .seq a b =>
  (match rec (.code nt rd a) s with
  | .code .normal s' => rec (.code nt rd b) s'
  | .code x s' => .code x s'
  | .bad m tr => .bad m tr
  | _ => .bad "seq" [])
 | .cond x a b => (match aev s.T x with | .bool t => bif okX g0 x then rec (.code nt rd (bif t then a else b)) s else .bad "cond" [] | _ => .bad "cond" [])
 | .block id b =>
  (match rec (.code nt rd b) s with
  | .code (.exit id') s' => bif id'.beq id then .code .normal s' else .code (.exit id') s'
  | .code x s' => .code x s'
  | .bad m tr => .bad m tr
  | _ => .bad "block" [])
 | .loop b => rec (.loop nt rd b) s
 | .scope b =>
  (match rec (.code nt rd b) s with
  | .code (.goto _) _ => .bad "goto" []
  | .code x s' => .code x s'
  | .bad m tr => .bad m tr
  | _ => .bad "scope" [])
 | .exit id => .code (.exit id) s
 | .ret => .code .ret s
 | .region _ ops draw =>
  bif draw then
   let pre := preAll ops.toList []
   bif regOk ops pre then zEl P g0 rec nt rd ops pre (planOf ops pre) 0 [] s else .bad "region: temporaries" []
  else evOps P g0 rec nt rd ops (List.range ops.size) s
 | .rangeFunc g params assign body =>
  bif okX g0 g then
   match aev s.T g with
   | .func (.func f) first cap =>
    bif callable P f then
     match rd with
     | none => zGe rec nt rd params assign body f first.toList cap.toList s s.n (s.H.set s.n (some .defs)) (s.n + 1) (.mark s.n :: s.df)
     | some l => (match s.H.get l with | some (.loop r) => zGe rec nt rd params assign body f first.toList cap.toList s r.defs s.H s.n s.df | _ => .bad "range: no loop around" [])
    else .bad "range: no body" []
   | _ => .bad "range: of what?" []
  else .bad "operand" []
 | .goto _ => .bad "goto" []
 | .refuse _ => .bad "refused" []
def zAo (s : Fs) : List ResultVar → Option (List Value)
 | [] => some []
 | .tmp t :: l => (zAo s l).map (((s.T.get t).getD undef) :: ·)
 | .cell a t :: l => (match zKc P t ((s.T.get a).getD undef) s.H.get with | .val v [] 0 => (zAo s l).map (v :: ·) | _ => none)
def tupleOf (vs : List Value) : Value := match vs with | [v] => v | l => .tuple l.toArray
inductive OutR where
 | ok (u : Option (List (Value × Bool))) (H : Tr AObj) (n : Nat) (wr : List Nat)
 | bad (why : String) (tr : List Nat)
def evOut : List ADf → Option (List (Value × Bool)) → Tr AObj → Nat → List Nat → OutR
 | [], u, H, n, wr => .ok u H n wr
 | .mark d :: l, u, H, n, wr => (match H.get d with | some .defs => evOut l u (H.set d none) n (d :: wr) | _ => .bad "mark" [])
 | .call f cap args :: l, u, H, n, wr =>
  bif callable P f then
   match rec (.dcall f (args ++ cap) u) ⟨.e, H, n, [], []⟩ with
   | .ret _ H' n' wr' => evOut l none H' n' (wr' ++ wr)
   | .pan ch H' n' wr' => evOut l (some ch) H' n' (wr' ++ wr)
   | .bad m tr => .bad m tr
   | .code _ _ => .bad "deferred: code" []
  else .bad "deferred: no body" []
def modeOf : Ex → Option (Option (List (Value × Bool)))
 | .normal | .ret => some none
 | .pan ch => some (some ch)
 | _ => none
def evFn (f : FuncId) (args : List Value) (H : Tr AObj) (n : Nat) : Res :=
 match P.funcs[f]? with
 | none => .bad "function" []
 | some fn =>
  match fn.body with
  | none => .bad "function: no body" []
  | some c =>
   match rec (.code (args.length + (fn.ntmps - args.length)) none c) ⟨tmpsOf args 0 .e, H, n, [], []⟩ with
   | .code x s =>
    (match modeOf x with
    | none => .bad "function: way out" [f]
    | some u =>
     (match evOut P rec s.df u s.H s.n s.wr with
     | .ok none H' n' wr' =>
      (match zAo P { s with H := H' } fn.results.toList with
      | some vs => .ret (tupleOf vs) H' n' (own n n' wr')
      | none => .bad "results" [f])
     | .ok (some ch) H' n' wr' => .pan ch H' n' (own n n' wr')
     | .bad m tr => .bad m (f :: tr)))
   | .bad m tr => .bad m (f :: tr)
   | _ => .bad "function: way out" [f]
def recA : Option (List (Value × Bool)) → Option (Value × Option (List (Value × Bool)))
 | some ((v, false) :: l) => some (v, some ((v, true) :: l))
 | _ => none
def settleA : Option (List (Value × Bool)) → Option (List (Value × Bool))
 | some ((_, true) :: _) => none
 | u => u
def raisedA (u : Option (List (Value × Bool))) (ch : List (Value × Bool)) : List (Value × Bool) :=
 match u with | some old => ch ++ old | none => ch
inductive SR where
 | ok (x : Ex) (u : Option (List (Value × Bool))) (s : Fs)
 | bad (why : String) (tr : List Nat)
def zCz (o : Oper) : Bool := match o.op with | .call c => (match c.callee with | .builtin .recover => true | _ => false) | _ => false
def zGc (nt : Nat) (ops : Array Oper) : List Nat → Option (List (Value × Bool)) → Fs → SR
 | [], u, s => .ok .normal u s
 | i :: l, u, s =>
  match ops[i]? with
  | none => zGc nt ops l u s
  | some o =>
   bif guardOk ops s.T o then
    bif zCz o then
     match recA u with
     | some (v, u') => (match putT nt s.T o.dst v with | some T => zGc nt ops l u' { s with T } | none => .bad "slot" [])
     | none => (match putT nt s.T o.dst .nilIface with | some T => zGc nt ops l u { s with T } | none => .bad "slot" [])
    else bif okOps g0 o && !(zBp o) && (zCd o).isNone then
     (match aop P o (aev s.T) s.H.get s.n with
     | .val v us k => bif keysOk s.n k us s.H.get then (match putT nt s.T o.dst v with | some T => zGc nt ops l u { s with T, H := applyUs s.H us, n := s.n + k, wr := us.map (·.1) ++ s.wr } | none => .bad "slot" []) else .bad "names" []
     | .pan v => .ok (.pan [(v, false)]) u s
     | .bad m => .bad m [])
    else .bad "recover: with what else?" []
   else match putT nt s.T o.dst undef with
    | some T => zGc nt ops l u { s with T }
    | none => .bad "slot" []
def leafS (nt : Nat) (c : Code) (u : Option (List (Value × Bool))) (s : Fs) : SR :=
 match rec (.code nt none c) s with
 | .code x s' => .ok x u s'
 | .bad m tr => .bad m tr
 | _ => .bad "deferred: code" []
def evS (nt : Nat) : Code → Option (List (Value × Bool)) → Fs → SR
 | .seq a b, u, s => (match evS nt a u s with | .ok .normal u' s' => evS nt b u' s' | r => r)
 | .region id ops d, u, s =>
  bif ops.toList.any zCz && !d then zGc P g0 nt ops (List.range ops.size) u s
  else leafS rec nt (.region id ops d) u s
 | c, u, s => leafS rec nt c u s
def zOt (f : FuncId) (args : List Value) (u : Option (List (Value × Bool))) (H : Tr AObj) (n : Nat) : Res :=
 match P.funcs[f]? with
 | none => .bad "function" []
 | some fn =>
  match fn.body with
  | none => .bad "function: no body" []
  | some c =>
   match evS P g0 rec (args.length + (fn.ntmps - args.length)) c u ⟨tmpsOf args 0 .e, H, n, [], []⟩ with
   | .bad m tr => .bad m (f :: tr)
   | .ok x u' s =>
    match s.df with
    | [] =>
     (match modeOf x with
     | none => .bad "deferred: way out" [f]
     | some none => (match zAo P s fn.results.toList with
      | some _ => (match settleA u' with | none => .ret undef s.H s.n (own n s.n s.wr) | some ch => .pan ch s.H s.n (own n s.n s.wr))
      | none => .bad "results" [f])
     | some (some ch) => .pan (raisedA u' ch) s.H s.n (own n s.n s.wr))
    | _ => .bad "deferred: defers" [f]
def zQh (nt : Nat) (rd : Option Nat) (c : Code) (s : Fs) : Res :=
 match rec (.code nt rd c) s with
 | .code .normal s' => rec (.loop nt rd c) s'
 | .code x s' => .code x s'
 | .bad m tr => .bad m tr
 | _ => .bad "loop" []
def step (t : Task) (s : Fs) : Res :=
 match t with
 | .code nt rd c => zBj P g0 rec nt rd c s
 | .loop nt rd c => zQh rec nt rd c s
 | .call f args => evFn P rec f args s.H s.n
 | .dcall f args u => zOt P g0 rec f args u s.H s.n
end
noncomputable def ev (P : Program) (g0 : Nat) (f : Nat) : Task → Fs → Res :=
 Nat.rec (fun _ _ => .bad "fuel" []) (fun _ ih t s => step P g0 ih t s) f
theorem ev_zero (P : Program) (g0 : Nat) (t : Task) (s : Fs) : ev P g0 0 t s = .bad "fuel" [] := rfl
theorem ev_succ (P : Program) (g0 f : Nat) (t : Task) (s : Fs) : ev P g0 (f + 1) t s = step P g0 (ev P g0 f) t s := rfl
def zMj (r : Res) : Bool := match r with | .ret (.bool true) _ _ [] => true | _ => false
end Go.Proofs.Ytpdeidlkeplegaa
