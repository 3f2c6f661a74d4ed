/- DERIVED. Texts put together: M1. -/
import Derived.DefersIn
import Derived.KernelRfl
import Derived.OrdersIn
import Derived.RangeFuncIn
import Derived.RecoverIn
import Derived.WalkKit
set_option maxRecDepth 1000000
set_option maxHeartbeats 32000000
namespace Go.Proofs.Ytpdeidlkeplegaa
open Go.RowKit
inductive Tr (α : Type) where
 | e
 | n (l : Tr α) (v : Option α) (r : Tr α)
def Tr.get {α : Type} : Tr α → Nat → Option α
 | .e, _ => none
 | .n l v r, k => bif k.beq 0 then v else bif (k % 2).beq 1 then l.get (k / 2) else r.get (k / 2 - 1)
def Tr.left {α : Type} : Tr α → Tr α | .e => .e | .n l _ _ => l
def Tr.right {α : Type} : Tr α → Tr α | .e => .e | .n _ _ r => r
def Tr.top {α : Type} : Tr α → Option α | .e => none | .n _ v _ => v
def Tr.setF {α : Type} (x : Option α) : Nat → Tr α → Nat → Tr α
 | 0, t, _ => t
 | f + 1, t, k => bif k.beq 0 then .n t.left x t.right else bif (k % 2).beq 1 then .n (setF x f t.left (k / 2)) t.top t.right else .n t.left t.top (setF x f t.right (k / 2 - 1))
def Tr.set {α : Type} (t : Tr α) (k : Nat) (x : Option α) : Tr α := Tr.setF x (k.log2 + 2) t k
theorem Tr.get_eq {α : Type} (t : Tr α) (k : Nat) : t.get k = if k = 0 then t.top else if k % 2 = 1 then t.left.get (k / 2) else t.right.get (k / 2 - 1) := by
 cases t with
 | e => simp [get, top, left, right]
 | n l v r =>
  simp only [get, top, left, right]
  by_cases h : k = 0
  ·simp [h]
  ·have : k.beq 0 = false := by cases hb : k.beq 0; rfl; exact absurd (Nat.eq_of_beq_eq_true hb) h
   rw [this]
   by_cases h2 : k % 2 = 1
   ·simp [h, h2]
   ·have h3 : (k % 2).beq 1 = false := by cases hb : (k % 2).beq 1; rfl; exact absurd (Nat.eq_of_beq_eq_true hb) h2
    simp [h, h2, h3]
theorem Tr.get_n {α : Type} (l : Tr α) (v : Option α) (r : Tr α) (k : Nat) : (Tr.n l v r).get k = if k = 0 then v else if k % 2 = 1 then l.get (k / 2) else r.get (k / 2 - 1) := Tr.get_eq (.n l v r) k
theorem Tr.get_setF {α : Type} (x : Option α) : ∀ (f : Nat) (t : Tr α) (k j : Nat), k + 1 < 2 ^ f → (Tr.setF x f t k).get j = if j = k then x else t.get j
 | 0, t, k, j, h => by simp at h
 | f + 1, t, k, j, h => by
  simp only [setF]
  by_cases h0 : k = 0
  ·subst h0
   simp only [Nat.beq_refl, cond_true, Tr.get_n]
   rw [Tr.get_eq t j]
   by_cases hj : j = 0 <;> simp [hj]
  ·have hb : k.beq 0 = false := by cases hb : k.beq 0; rfl; exact absurd (Nat.eq_of_beq_eq_true hb) h0
   rw [hb]
   have hp : 2 ^ (f + 1) = 2 * 2 ^ f := by rw [Nat.pow_succ]; omega
   by_cases h2 : k % 2 = 1
   ·have h3 : (k % 2).beq 1 = true := by rw [h2]; rfl
    rw [h3]
    simp only [cond_true, cond_false, Tr.get_n]
    rw [Tr.get_setF x f t.left (k / 2) (j / 2) (by omega), Tr.get_eq t j]
    by_cases hj : j = 0
    ·simp [hj, Ne.symm h0]
    ·by_cases hj2 : j % 2 = 1
     ·simp only [hj, hj2, if_true, if_false]
      by_cases hjk : j = k
      ·simp [hjk]
      ·rw [if_neg (by omega), if_neg hjk]
     ·simp only [hj, hj2, if_false]
      rw [if_neg (by omega)]
   ·have h3 : (k % 2).beq 1 = false := by cases hb : (k % 2).beq 1; rfl; exact absurd (Nat.eq_of_beq_eq_true hb) h2
    rw [h3]
    simp only [cond_false, Tr.get_n]
    rw [Tr.get_setF x f t.right (k / 2 - 1) (j / 2 - 1) (by omega), Tr.get_eq t j]
    by_cases hj : j = 0
    ·simp [hj, Ne.symm h0]
    ·by_cases hj2 : j % 2 = 1
     ·simp only [hj, hj2, if_true, if_false]
      rw [if_neg (by omega)]
     ·simp only [hj, hj2, if_false]
      by_cases hjk : j = k
      ·simp [hjk]
      ·rw [if_neg (by omega), if_neg hjk]
theorem Tr.get_set {α : Type} (t : Tr α) (k j : Nat) (x : Option α) : (t.set k x).get j = if j = k then x else t.get j := by
 refine Tr.get_setF x _ t k j ?_
 have h1 : k < 2 ^ (k.log2 + 1) := Nat.lt_log2_self
 have hp : 2 ^ (k.log2 + 2) = 2 * 2 ^ (k.log2 + 1) := by rw [Nat.pow_succ 2 (k.log2 + 1)]; omega
 omega
theorem Tr.get_set_self {α : Type} (t : Tr α) (k : Nat) (x : Option α) : (t.set k x).get k = x := by rw [get_set, if_pos rfl]
theorem Tr.get_set_ne {α : Type} (t : Tr α) {k j : Nat} (x : Option α) (h : j ≠ k) : (t.set k x).get j = t.get j := by rw [get_set, if_neg h]
theorem Tr.get_e {α : Type} (k : Nat) : (Tr.e : Tr α).get k = none := rfl
def U : Nat := 1180591620717411303424
structure Env where
 dom : Nat → Prop
 ρ : Nat → Nat
 tot : Nat → Nat
 sz : Nat → Nat
 sh : Nat → Nat
 ro : Nat → Prop
 fz : Nat → Option Obj
def plainFn : Fn → Bool
 | .yield _ => false
 | .via _ _ _ _ => false
 | _ => true
def plainV : Nat → Value → Bool
 | _, .bool _ | _, .int _ _ | _, .float _ _ | _, .string _ | _, .pointer none | _, .slice none _ _ | _, .map none | _, .nilFunc | _, .nilIface => true
 | n + 1, .iface _ v => plainV n v
 | n + 1, .agg a => a.toList.all (plainV n)
 | n + 1, .tuple a => a.toList.all (plainV n)
 | _, _ => false
def fzc (F : Nat → Option Obj) (b o : Nat) : Option Value := match F b with
 | some (.cells arr _ _) => arr[o]?
 | _ => none
abbrev treeV (z n : Nat) (cs : List Value) : Value := .func (.via z #[] n false) #[] ⟨cs⟩
abbrev refV (cs : List Value) : Value := .func (.via 0 #[] 0 true) #[] ⟨cs⟩
inductive DV (F : Nat → Option Obj) : Value → Value → Prop
 | plain (v : Value) (h : plainV 8 v = true) : DV F v v
 | tree (z n c b o : Nat) (cs : List Value) (a' : Option Addr) (x : Nat → Value) (hl : cs.length = n * z) (hc : n ≤ c) (hm : c ≤ maxLen) (ha : a' = some ⟨b, o, none⟩ ∨ (n = 0 ∧ (a' = none → c = 0)))
   (h1 : ∀ j, j < cs.length → fzc F b (o + j) = some (x j)) (h2 : ∀ j v, cs[j]? = some v → DV F v (x j)) : DV F (treeV z n cs) (.slice a' n c)
 | ref (b o : Nat) (cs : List Value) (x : Nat → Value) (h1 : ∀ j, j < cs.length → fzc F b (o + j) = some (x j)) (h2 : ∀ j v, cs[j]? = some v → DV F v (x j)) : DV F (refV cs) (.pointer (some ⟨b, o, none⟩))
theorem zQm {F F' : Nat → Option Obj} (h : ∀ b ob, F b = some ob → F' b = some ob) {b o : Nat} {v : Value} (hv : fzc F b o = some v) : fzc F' b o = some v := by
 unfold fzc at hv ⊢
 cases hb : F b with
 | none => rw [hb] at hv; cases hv
 | some ob => rw [h b ob hb]; rw [hb] at hv; exact hv
theorem DV.mono {F F' : Nat → Option Obj} (h : ∀ b ob, F b = some ob → F' b = some ob) {v v' : Value} (hd : DV F v v') : DV F' v v' := by
 induction hd with
 | plain v h => exact .plain v h
 | tree z n c b o cs a' x hl hc hm ha h1 _ ih => exact .tree z n c b o cs a' x hl hc hm ha (fun j hj => zQm h (h1 j hj)) ih
 | ref b o cs x h1 _ ih => exact .ref b o cs x (fun j hj => zQm h (h1 j hj)) ih
def anyOk : Value → Bool
 | .agg _ | .tuple _ | .bool _ => false
 | _ => true
theorem DV.inv {F : Nat → Option Obj} {t : TypeId} {p : Array FieldStep} {n : FuncId} {q : Bool} {f c : Array Value} {v' : Value} (h : DV F (.func (.via t p n q) f c) v') : (∃ a l k, v' = .slice a l k) ∨ ∃ a, v' = .pointer (some a) := by
 cases h with
 | plain _ h => simp [plainV] at h
 | tree => exact .inl ⟨_, _, _, rfl⟩
 | ref => exact .inr ⟨_, rfl⟩
mutual
inductive VR (E : Env) : Value → Value → Prop
 | bool (b : Bool) : VR E (.bool b) (.bool b)
 | int (k : IntKind) (n : Int) : VR E (.int k n) (.int k n)
 | float (k : FloatKind) (b : Nat) : VR E (.float k b) (.float k b)
 | string (s : ByteArray) : VR E (.string s) (.string s)
 | pnil : VR E (.pointer none) (.pointer none)
 | ptr (b o : Nat) (h : E.dom b) : VR E (.pointer (some ⟨b, o, none⟩)) (.pointer (some ⟨E.ρ b, E.sh b + o, none⟩))
 | snil (l c : Nat) : VR E (.slice none l c) (.slice none l c)
 | sl (b o n c : Nat) (h : E.dom b) (hc : c ≠ U) : VR E (.slice (some ⟨b, o, none⟩) n c) (.slice (some ⟨E.ρ b, E.sh b + o, none⟩) n c)
 | su (b o n c : Nat) (h : E.dom b) (h1 : n ≤ c) (h2 : c ≤ maxLen) (h3 : o + c * E.sz b = E.tot b) : VR E (.slice (some ⟨b, o, none⟩) n U) (.slice (some ⟨E.ρ b, E.sh b + o, none⟩) n c)
 | se (b o c : Nat) (a' : Option Addr) (h : E.dom b) (ha : a' = none → c = 0) (hc : (c = U ∧ E.tot b ≤ o) ∨ c = 0) : VR E (.slice (some ⟨b, o, none⟩) 0 c) (.slice a' 0 0)
 | mnil : VR E (.map none) (.map none)
 | map (b : Nat) (h : E.dom b) : VR E (.map (some b)) (.map (some (E.ρ b)))
 | func (fn : Fn) (as as' cs cs' : Array Value) (hf : plainFn fn = true) (ha : VL E as.toList as'.toList) (hc : VL E cs.toList cs'.toList) : VR E (.func fn as cs) (.func fn as' cs')
 | yield (l : Nat) (h : E.dom l) : VR E (.func (.yield l) #[] #[]) (.func (.yield (E.ρ l)) #[] #[])
 | fnil : VR E .nilFunc .nilFunc
 | iface (t : TypeId) (v v' : Value) (h : VR E v v') : VR E (.iface t v) (.iface t v')
 | inil : VR E .nilIface .nilIface
 | agg (a a' : Array Value) (h : VL E a.toList a'.toList) : VR E (.agg a) (.agg a')
 | tuple (a a' : Array Value) (h : VL E a.toList a'.toList) : VR E (.tuple a) (.tuple a')
 | ub (t : TypeId) (a : Array Value) : VR E (.chan (some t)) (.iface t (.agg a))
 | any (v' : Value) (h : anyOk v' = true) : VR E (.chan none) v'
 | deep (t : TypeId) (p : Array FieldStep) (n : FuncId) (q : Bool) (f c : Array Value) (v' : Value) (h : DV E.fz (.func (.via t p n q) f c) v') : VR E (.func (.via t p n q) f c) v'
inductive VL (E : Env) : List Value → List Value → Prop
 | nil : VL E [] []
 | cons (v v' : Value) (l l' : List Value) (h : VR E v v') (t : VL E l l') : VL E (v :: l) (v' :: l')
end
structure Ext (E E' : Env) : Prop where
 n : ∀ b, E.dom b → E'.dom b
 ρ : ∀ b, E.dom b → E'.ρ b = E.ρ b
 tot : ∀ b, E.dom b → E'.tot b = E.tot b
 sz : ∀ b, E.dom b → E'.sz b = E.sz b
 sh : ∀ b, E.dom b → E'.sh b = E.sh b
 ro : ∀ b, E.dom b → (E'.ro b ↔ E.ro b)
 fz : ∀ b ob, E.fz b = some ob → E'.fz b = some ob
theorem Ext.refl (E : Env) : Ext E E := ⟨fun _ h => h, fun _ _ => rfl, fun _ _ => rfl, fun _ _ => rfl, fun _ _ => rfl, fun _ _ => Iff.rfl, fun _ _ h => h⟩
theorem Ext.trans {A B C : Env} (h : Ext A B) (k : Ext B C) : Ext A C :=
 ⟨fun b hb => k.n b (h.n b hb), fun b hb => (k.ρ b (h.n b hb)).trans (h.ρ b hb), fun b hb => (k.tot b (h.n b hb)).trans (h.tot b hb), fun b hb => (k.sz b (h.n b hb)).trans (h.sz b hb), fun b hb => (k.sh b (h.n b hb)).trans (h.sh b hb), fun b hb => (k.ro b (h.n b hb)).trans (h.ro b hb), fun b ob hb => k.fz b ob (h.fz b ob hb)⟩
mutual
theorem VR.ext {E E' : Env} (x : Ext E E') {v v' : Value} (h : VR E v v') : VR E' v v' := by
 cases h with
 | bool => exact .bool _
 | int => exact .int _ _
 | float => exact .float _ _
 | string => exact .string _
 | pnil => exact .pnil
 | ptr b o hb => rw [← x.ρ b hb, ← x.sh b hb]; exact .ptr b o (x.n _ hb)
 | snil => exact .snil _ _
 | sl b o n c hb hc => rw [← x.ρ b hb, ← x.sh b hb]; exact .sl b o n c (x.n _ hb) hc
 | su b o n c hb h1 h2 h3 => rw [← x.ρ b hb, ← x.sh b hb]; exact .su b o n c (x.n _ hb) h1 h2 (by rw [x.sz b hb, x.tot b hb]; exact h3)
 | se b o c a' hb ha hc => exact .se b o c a' (x.n _ hb) ha (by rw [x.tot b hb]; exact hc)
 | mnil => exact .mnil
 | map b hb => rw [← x.ρ b hb]; exact .map b (x.n _ hb)
 | func fn as as' cs cs' hf ha hc => exact .func fn as as' cs cs' hf (VL.ext x ha) (VL.ext x hc)
 | yield l hl => rw [← x.ρ l hl]; exact .yield l (x.n _ hl)
 | fnil => exact .fnil
 | iface t v v' h => exact .iface t v v' (VR.ext x h)
 | inil => exact .inil
 | agg a a' h => exact .agg a a' (VL.ext x h)
 | tuple a a' h => exact .tuple a a' (VL.ext x h)
 | ub t a => exact .ub t a
 | any v' h => exact .any v' h
 | deep t p n q f c v' h => exact .deep t p n q f c v' (h.mono x.fz)
theorem VL.ext {E E' : Env} (x : Ext E E') {l l' : List Value} (h : VL E l l') : VL E' l l' := by
 cases h with
 | nil => exact .nil
 | cons v v' l l' h t => exact .cons v v' l l' (VR.ext x h) (VL.ext x t)
end
theorem VL.length {E : Env} : ∀ {l l' : List Value}, VL E l l' → l.length = l'.length
 | _, _, .nil => rfl
 | _, _, .cons _ _ _ _ _ t => by simp [VL.length t]
theorem VL.at {E : Env} : ∀ {l l' : List Value}, VL E l l' → ∀ (i : Nat) (v : Value), l[i]? = some v → ∃ v', l'[i]? = some v' ∧ VR E v v'
 | _, _, .cons v v' _ _ h t, 0, u, e => by simp at e; subst e; exact ⟨v', rfl, h⟩
 | _, _, .cons _ _ _ _ _ t, i + 1, u, e => by simp at e ⊢; exact VL.at t i u e
theorem VL.of_at {E : Env} : ∀ {l l' : List Value}, l.length = l'.length → (∀ (i : Nat) (v v' : Value), l[i]? = some v → l'[i]? = some v' → VR E v v') → VL E l l'
 | [], [], _, _ => .nil
 | v :: l, v' :: l', hl, h => .cons v v' l l' (h 0 v v' rfl rfl) (VL.of_at (by simpa using hl) (fun i a b ha hb => h (i + 1) a b (by simpa using ha) (by simpa using hb)))
theorem VL.append {E : Env} {a a' b b' : List Value} (h : VL E a a') (k : VL E b b') : VL E (a ++ b) (a' ++ b') := by
 induction a generalizing a' with
 | nil => cases h; exact k
 | cons v l ih => cases h with | cons _ v' _ l' hv ht => exact .cons _ _ _ _ hv (ih ht)
theorem VL.take {E : Env} {a a' : List Value} (h : VL E a a') (n : Nat) : VL E (a.take n) (a'.take n) := by
 induction a generalizing a' n with
 | nil => cases h; simp; exact .nil
 | cons v l ih => cases h with | cons _ v' _ l' hv ht => cases n with | zero => exact .nil | succ n => exact .cons _ _ _ _ hv (ih ht n)
theorem VL.drop {E : Env} {a a' : List Value} (h : VL E a a') (n : Nat) : VL E (a.drop n) (a'.drop n) := by
 induction a generalizing a' n with
 | nil => cases h; simp; exact .nil
 | cons v l ih => cases h with | cons _ v' _ l' hv ht => cases n with | zero => exact .cons _ _ _ _ hv ht | succ n => exact ih ht n
theorem VR.tree_inv {E : Env} {z n : Nat} {p : Array FieldStep} {f c : Array Value} {v' : Value} (h : VR E (.func (.via z p n false) f c) v') : ∃ (b o k : Nat) (a' : Option Addr) (x : Nat → Value), v' = .slice a' n k ∧ c.toList.length = n * z ∧ n ≤ k ∧ k ≤ maxLen ∧ (a' = some ⟨b, o, none⟩ ∨ (n = 0 ∧ (a' = none → k = 0))) ∧ (∀ j, j < c.toList.length → fzc E.fz b (o + j) = some (x j)) ∧ ∀ j v, c.toList[j]? = some v → DV E.fz v (x j) := by
 cases h with
 | func _ _ _ _ _ hf => simp [plainFn] at hf
 | deep _ _ _ _ _ _ _ h =>
  cases h with
  | plain _ h => simp [plainV] at h
  | tree _ _ k b o cs a' x hl hc hm ha h1 h2 => exact ⟨b, o, k, a', x, rfl, hl, hc, hm, ha, h1, h2⟩
theorem VR.ref_inv {E : Env} {z n : Nat} {p : Array FieldStep} {f c : Array Value} {v' : Value} (h : VR E (.func (.via z p n true) f c) v') : ∃ (b o : Nat) (x : Nat → Value), v' = .pointer (some ⟨b, o, none⟩) ∧ (∀ j, j < c.toList.length → fzc E.fz b (o + j) = some (x j)) ∧ ∀ j v, c.toList[j]? = some v → DV E.fz v (x j) := by
 cases h with
 | func _ _ _ _ _ hf => simp [plainFn] at hf
 | deep _ _ _ _ _ _ _ h =>
  cases h with
  | plain _ h => simp [plainV] at h
  | ref b o cs x h1 h2 => exact ⟨b, o, x, rfl, h1, h2⟩
theorem VR.ref_part {E : Env} {b o m k : Nat} {cs : List Value} {x : Nat → Value} (h1 : ∀ j, j < cs.length → fzc E.fz b (o + j) = some (x j)) (h2 : ∀ j v, cs[j]? = some v → DV E.fz v (x j)) : VR E (refV ((cs.drop m).take k)) (.pointer (some ⟨b, o + m, none⟩)) := by
 refine .deep _ _ _ _ _ _ _ (.ref b (o + m) _ (fun j => x (m + j)) (fun j hj => ?_) (fun j v hj => ?_))
 ·rw [List.length_take, List.length_drop] at hj
  rw [Nat.add_assoc]; exact h1 _ (by omega)
 ·have hlt : j < k := by have := (List.getElem?_eq_some_iff.1 hj).1; rw [List.length_take] at this; omega
  rw [List.getElem?_take_of_lt hlt, List.getElem?_drop] at hj
  exact h2 _ v hj
theorem VR.ref_drop {E : Env} {b o m : Nat} {cs : List Value} {x : Nat → Value} (h1 : ∀ j, j < cs.length → fzc E.fz b (o + j) = some (x j)) (h2 : ∀ j v, cs[j]? = some v → DV E.fz v (x j)) : VR E (refV (cs.drop m)) (.pointer (some ⟨b, o + m, none⟩)) := by
 have := VR.ref_part (E := E) (m := m) (k := cs.length) h1 h2
 rwa [List.take_of_length_le (by rw [List.length_drop]; omega)] at this
theorem zBw {E : Env} : ∀ (n : Nat) {v v' : Value}, plainV n v = true → VR E v v' → v' = v := by
 intro n
 induction n with
 | zero => intro v v' hp h; cases h <;> first | rfl | (simp [plainV] at hp)
 | succ n ih =>
  have key : ∀ {l l' : List Value}, l.all (plainV n) = true → VL E l l' → l' = l := by
   intro l
   induction l with
   | nil => intro l' _ h; cases h; rfl
   | cons v l ihl =>
    intro l' hp h
    cases h with
    | cons _ v' _ l' hv ht =>
     simp only [List.all_cons, Bool.and_eq_true] at hp
     rw [ih hp.1 hv, ihl hp.2 ht]
  intro v v' hp h
  cases h with
  | iface t v v' h => simp only [plainV] at hp; rw [ih hp h]
  | agg a a' h => simp only [plainV] at hp; rw [show a' = a from Array.ext' (key hp h)]
  | tuple a a' h => simp only [plainV] at hp; rw [show a' = a from Array.ext' (key hp h)]
  | _ => first | rfl | (simp [plainV] at hp)
theorem zAg {E : Env} : ∀ (n : Nat) {v : Value}, plainV n v = true → VR E v v := by
 intro n
 induction n with
 | zero =>
  intro v hp
  cases v with
  | bool b => exact .bool b
  | int k n => exact .int k n
  | float k b => exact .float k b
  | string s => exact .string s
  | pointer a => cases a with | none => exact .pnil | some a => simp [plainV] at hp
  | slice a l c => cases a with | none => exact .snil l c | some a => simp [plainV] at hp
  | map r => cases r with | none => exact .mnil | some a => simp [plainV] at hp
  | nilFunc => exact .fnil
  | nilIface => exact .inil
  | _ => simp [plainV] at hp
 | succ n ih =>
  have key : ∀ {l : List Value}, l.all (plainV n) = true → VL E l l := by
   intro l
   induction l with
   | nil => intro _; exact .nil
   | cons v l ihl => intro hp; simp only [List.all_cons, Bool.and_eq_true] at hp; exact .cons _ _ _ _ (ih hp.1) (ihl hp.2)
  intro v hp
  cases v with
  | bool b => exact .bool b
  | int k n => exact .int k n
  | float k b => exact .float k b
  | string s => exact .string s
  | pointer a => cases a with | none => exact .pnil | some a => simp [plainV] at hp
  | slice a l c => cases a with | none => exact .snil l c | some a => simp [plainV] at hp
  | map r => cases r with | none => exact .mnil | some a => simp [plainV] at hp
  | nilFunc => exact .fnil
  | nilIface => exact .inil
  | iface t v => simp only [plainV] at hp; exact .iface _ _ _ (ih hp)
  | agg a => simp only [plainV] at hp; exact .agg _ _ (key hp)
  | tuple a => simp only [plainV] at hp; exact .tuple _ _ (key hp)
  | _ => simp [plainV] at hp
theorem DV.vr {E : Env} {v v' : Value} (h : DV E.fz v v') : VR E v v' := by
 cases h with
 | plain _ h => exact zAg 8 h
 | tree z n c b o cs a' x hl hc hm ha h1 h2 => exact .deep _ _ _ _ _ _ _ (.tree z n c b o cs a' x hl hc hm ha h1 h2)
 | ref b o cs x h1 h2 => exact .deep _ _ _ _ _ _ _ (.ref b o cs x h1 h2)
theorem zOr {E : Env} {b o m k : Nat} {cs : List Value} {x : Nat → Value} (h1 : ∀ j, j < cs.length → fzc E.fz b (o + j) = some (x j)) (h2 : ∀ j v, cs[j]? = some v → DV E.fz v (x j)) (hk : m + k ≤ cs.length) :
  ∃ l : List Value, l.length = k ∧ VL E ((cs.drop m).take k) l ∧ ∀ j v, l[j]? = some v → fzc E.fz b (o + m + j) = some v := by
 refine ⟨(List.range k).map fun j => x (m + j), by simp, VL.of_at (by simp; omega) (fun i v v' hi hi' => ?_), fun j v hj => ?_⟩
 ·have hlt : i < k := by have := (List.getElem?_eq_some_iff.1 hi').1; simpa using this
  rw [List.getElem?_take_of_lt hlt, List.getElem?_drop] at hi
  simp [List.getElem?_range hlt] at hi'
  subst hi'
  exact (h2 _ v hi).vr
 ·have hlt : j < k := by have := (List.getElem?_eq_some_iff.1 hj).1; simpa using this
  simp [List.getElem?_range hlt] at hj
  subst hj
  rw [Nat.add_assoc]; exact h1 _ (by omega)
end Go.Proofs.Ytpdeidlkeplegaa
