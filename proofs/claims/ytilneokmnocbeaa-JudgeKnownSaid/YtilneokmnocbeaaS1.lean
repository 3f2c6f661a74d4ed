/- DERIVED. M with symbols, first part: what M computes, told with a continuation: where something is not decided, the two ways. -/
import Derived.Test.YtilneokmnocbeaaM20
namespace Go.Proofs.Ytilneokmnocbeaa
open Go.RowKit

/-- Two ways. -/
abbrev brK (b : Bool) (A B : Prop) : Prop := @Bool.rec (fun _ => Prop) B A b
theorem ifK {b : Bool} {A B : Prop} (h1 : b = true → A) (h2 : b = false → B) : @Bool.rec (fun _ => Prop) B A b := by cases b; exact h2 rfl; exact h1 rfl

/-! ## single operations -/
/-- The bytes at an index of a string. -/
def atS (s : ByteArray) (i : Int) : UInt8 := s.data.toList.getD i.toNat 0
def subS (s : ByteArray) (l h : Nat) : ByteArray := ⟨((s.data.toList.take h).drop l).toArray⟩

def inI (i : Int) (n : Nat) : Bool := decide (0 ≤ i) && decide (i < n)
def inLH (lo hi : Int) (n : Nat) : Bool := decide (0 ≤ lo) && decide (lo ≤ hi) && decide (hi ≤ n)

def loI (v : Option Value) (d : Int) : Option Int := match v with | none => some d | some (.int _ i) => some i | _ => none

section
variable (P : Program) (sy : List Nat)

/-- There are values of these kinds. -/
def exL : List Value → (List Value → Prop) → Prop
  | [], F => F []
  | .string _ :: z, F => ∃ s : ByteArray, exL z fun l => F (.string s :: l)
  | .int k _ :: z, F => ∃ i : Int, exL z fun l => F (.int k i :: l)
  | .bool _ :: z, F => ∃ b : Bool, exL z fun l => F (.bool b :: l)
  | _ :: z, F => ∃ u : Value, exL z fun l => F (u :: l)
theorem exL_imp : ∀ (z : List Value) (F : List Value → Prop), exL z F → ∃ l, F l
  | [], F, h => ⟨[], h⟩
  | v :: z, F, h => by
    cases v <;> (obtain ⟨u, hu⟩ := h; obtain ⟨l, hl⟩ := exL_imp z _ hu; exact ⟨_, hl⟩)

/-- A load from a block whose cells are told by symbols. -/
def sLoad (t : TypeId) (a : Value) (G : Gh) (K : ORes → Prop) : Prop :=
  match a with
  | .pointer (some ⟨b, o, none⟩) =>
    bif sy.elem b then
      (match G b with
      | some (.cells c _) =>
        (match aggT P t, P.info? t with
        | some false, some i => exL [i.zero.getD .nilFunc] fun l => (match l with | [u] => c[o]? = some u ∧ K (.val u [] 0) | _ => False)
        | some true, some i => exL (i.zero.getD .nilFunc).cells.toList fun l => (o + i.size ≤ c.length ∧ (c.drop o).take i.size = l) ∧ K (.val (.agg l.toArray) [] 0)
        | _, _ => False)
      | _ => False)
    else K (aLoad P t a G)
  | _ => K (aLoad P t a G)
theorem sLoad_imp {t : TypeId} {a : Value} {G : Gh} {K : ORes → Prop} (h : sLoad P sy t a G K) : K (aLoad P t a G) := by
  unfold sLoad at h
  split at h
  · rename_i b o
    cases hb : sy.elem b with
    | false => rw [hb] at h; exact h
    | true =>
      rw [hb] at h
      simp only [cond_true] at h
      unfold aLoad
      split at h
      · rename_i c e hg
        simp only [hg]
        split at h
        · rename_i i ha hi
          obtain ⟨l, hl⟩ := exL_imp _ _ h
          split at hl
          · rename_i u
            obtain ⟨hu, hk⟩ := hl
            simp only [ha, hu]; exact hk
          · exact hl.elim
        · rename_i i ha hi
          obtain ⟨l, ⟨h1, rfl⟩, hk⟩ := exL_imp _ _ h
          simp only [ha, hi]
          rw [Nat.ble_eq_true_of_le h1]; exact hk
        · exact h.elim
      · exact h.elim
  · exact h

/-- The address of an element of a slice. -/
def sIndexAddr (t : TypeId) (v i : Value) (K : ORes → Prop) : Prop :=
  match P.underlying t, v, i with
  | some (.slice e), .slice (some ⟨b, o, none⟩) n _, .int _ i =>
    (match P.info? e with
    | some inf => brK (inI i n) (K (.val (.pointer (some ⟨b, o + i.toNat * inf.size, none⟩)) [] 0)) (K (aBounds P))
    | none => False)
  | _, _, _ => K (aIndexAddr P t v i)
theorem sIndexAddr_imp {t : TypeId} {v i : Value} {K : ORes → Prop} (h : sIndexAddr P t v i K) : K (aIndexAddr P t v i) := by
  unfold sIndexAddr at h
  split at h
  · rename_i e b o n c k i hu
    split at h
    · rename_i inf hi
      unfold aIndexAddr
      simp only [hu, hi]
      cases hb : inI i n with
      | true => rw [hb] at h; unfold inI at hb; rw [hb]; exact h
      | false => rw [hb] at h; unfold inI at hb; rw [hb]; exact h
    · exact h.elim
  · exact h

/-- Strings. -/
def sStr (o : Oper) (ev : Operand → Value) (K : ORes → Prop) (D : Prop) : Prop :=
  match o.op with
  | .index t x y => (match P.underlying t, ev x, ev y with
    | some .string, .string s, .int _ i => inI i s.data.size = true ∧ K (.val (.int .u8 (atS s i).toNat) [] 0)
    | _, _, _ => D)
  | .slice t x lo hi none => (match P.underlying t, ev x with
    | some .string, .string s => (match loI (lo.map ev) 0, loI (hi.map ev) s.data.size with
      | some l, some h => inLH l h s.data.size = true ∧ K (.val (.string (subS s l.toNat h.toNat)) [] 0)
      | _, _ => False)
    | _, _ => D)
  | _ => D
theorem sStr_imp {o : Oper} {ev : Operand → Value} {K : ORes → Prop} {D : Prop} (h : sStr P o ev K D) : D ∨ (∃ v, aStr P o ev = .val v [] 0 ∧ K (.val v [] 0)) := by
  unfold sStr at h
  split at h
  · rename_i t x y ho
    split at h
    · rename_i s k i hu h1 h2
      obtain ⟨hi, hk⟩ := h
      refine .inr ⟨_, ?_, hk⟩
      unfold aStr
      simp only [ho, hu, h1, h2]
      simp only [inI, Bool.and_eq_true, decide_eq_true_eq] at hi
      have hl : i.toNat < s.data.toList.length := by rw [Array.length_toList]; omega
      rw [decide_eq_true hi.1]
      simp only [cond_true, List.getElem?_eq_getElem hl]
      simp [atS, List.getD_eq_getElem?_getD, List.getElem?_eq_getElem hl, -Array.getElem_toList, -Array.getElem?_toList, -Array.length_toList]
    · exact .inl h
  · rename_i t x lo hi ho
    split at h
    · rename_i s hu h1
      split at h
      · rename_i l hh hlo hhi
        obtain ⟨hb, hk⟩ := h
        refine .inr ⟨_, ?_, hk⟩
        unfold aStr
        simp only [ho, hu, h1]
        simp only [inLH, Bool.and_eq_true, decide_eq_true_eq] at hb
        obtain ⟨⟨b1, b2⟩, b3⟩ := hb
        have e2 : sbound (hi.map ev) s.data.size s.data.size = some hh.toNat := by
          unfold loI at hhi
          cases hm : hi.map ev with
          | none => rw [hm] at hhi; simp at hhi; subst hhi; simp [sbound]
          | some u =>
            rw [hm] at hhi
            cases u <;> simp only [] at hhi <;> first | (cases hhi; done) | skip
            cases hhi
            exact sbound_int.2 ⟨by omega, b3, rfl⟩
        have e1 : sbound (lo.map ev) hh.toNat 0 = some l.toNat := by
          unfold loI at hlo
          cases hm : lo.map ev with
          | none => rw [hm] at hlo; simp at hlo; subst hlo; simp [sbound]
          | some u =>
            rw [hm] at hlo
            cases u <;> simp only [] at hlo <;> first | (cases hlo; done) | skip
            cases hlo
            exact sbound_int.2 ⟨b1, by omega, rfl⟩
        simp only [e2, e1]; rfl
      · exact h.elim
    · exact .inl h
  · exact .inl h

/-- A division of which the divisor is not known. -/
def sRem (o : Oper) (ev : Operand → Value) (K : ORes → Prop) (D : Prop) : Prop :=
  match o.op with
  | .binOp .rem _ x y _ => (match ev x, ev y with
    | .int k a, .int k' b => bif decide (k = k') then (b == 0) = false ∧ K (.val (.int k (a.tmod b)) [] 0) else False
    | _, _ => D)
  | _ => D
theorem sRem_imp {o : Oper} {ev : Operand → Value} {K : ORes → Prop} {D : Prop} (h : sRem o ev K D) : D ∨ (∃ v, aPure P ev o = .val v [] 0 ∧ K (.val v [] 0) ∧ ∃ t x y u, o.op = .binOp .rem t x y u) := by
  unfold sRem at h
  split at h
  · rename_i t x y u ho
    split at h
    · rename_i k a k' b h1 h2
      cases hk : decide (k = k') with
      | false => rw [hk] at h; exact h.elim
      | true =>
        rw [hk] at h
        have hk := of_decide_eq_true hk
        subst hk
        obtain ⟨hb, h⟩ := h
        have hb : b ≠ 0 := by simpa using hb
        refine .inr ⟨_, ?_, h, t, x, y, u, ho⟩
        have h3 : pureR P (execOp ev o) = .ok (.value (.int k (a.tmod b))) := by
          simp [execOp, ho, h1, h2, eqGuard, binOp, Op.intDiv, hb]
        unfold aPure
        rw [show plainOps ev o = true by simp [plainOps, ho, Op.operands, h1, h2, plainV], show noSel o = true by simp [noSel, ho]]
        simp only [Bool.and_true, cond_true, h3]; rfl
    · exact .inl h
  · exact .inl h
end
end Go.Proofs.Ytilneokmnocbeaa
