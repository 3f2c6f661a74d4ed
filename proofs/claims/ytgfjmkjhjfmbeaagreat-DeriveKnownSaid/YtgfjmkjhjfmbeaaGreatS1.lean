/- DERIVED. M with symbols, first part: what M computes, told with a continuation: where something is not decided, the two ways. -/
import Derived.Test.YtgfjmkjhjfmbeaaGreatM20
namespace Go.Proofs.YtgfjmkjhjfmbeaaGreat
open Go.RowKit

/-- Two ways. -/
abbrev brK (b : Bool) (A B : Prop) : Prop := @Bool.rec (fun _ => Prop) B A b
theorem ifK {b : Bool} {A B : Prop} (h1 : b = true → A) (h2 : b = false → B) : @Bool.rec (fun _ => Prop) B A b := by cases b; exact h2 rfl; exact h1 rfl

/-! ## single operations -/
/-- The bytes at an index of a string. -/
def atS (s : ByteArray) (i : Int) : UInt8 := s.data.toList.getD i.toNat 0
def subS (s : ByteArray) (l h : Nat) : ByteArray := ⟨((s.data.toList.take h).drop l).toArray⟩

def inI (i : Int) (n : Nat) : Bool := decide (0 ≤ i) && decide (i < n)
def inLH (lo hi : Int) (n : Nat) : Bool := decide (0 ≤ lo) && decide (lo ≤ hi) && decide (hi ≤ n)

def loI (v : Option Value) (d : Int) : Option Int := match v with | none => some d | some (.int _ i) => some i | _ => none

section
variable (P : Program) (sy : List Nat)

/-- There are values of these kinds. -/
def exL : List Value → (List Value → Prop) → Prop
  | [], F => F []
  | .string _ :: z, F => ∃ s : ByteArray, exL z fun l => F (.string s :: l)
  | .int k _ :: z, F => ∃ i : Int, exL z fun l => F (.int k i :: l)
  | .bool _ :: z, F => ∃ b : Bool, exL z fun l => F (.bool b :: l)
  | _ :: z, F => ∃ u : Value, exL z fun l => F (u :: l)
theorem exL_imp : ∀ (z : List Value) (F : List Value → Prop), exL z F → ∃ l, F l
  | [], F, h => ⟨[], h⟩
  | v :: z, F, h => by
    cases v <;> (obtain ⟨u, hu⟩ := h; obtain ⟨l, hl⟩ := exL_imp z _ hu; exact ⟨_, hl⟩)

/-- A load from a block whose cells are told by symbols. -/
def sLoad (t : TypeId) (a : Value) (G : Gh) (K : ORes → Prop) : Prop :=
  match a with
  | .pointer (some ⟨b, o, none⟩) =>
    bif sy.elem b then
      (match G b with
      | some (.cells c _) =>
        (match aggT P t, P.info? t with
        | some false, some i => exL [i.zero.getD .nilFunc] fun l => (match l with | [u] => c[o]? = some u ∧ K (.val u [] 0) | _ => False)
        | some true, some i => exL (i.zero.getD .nilFunc).cells.toList fun l => (o + i.size ≤ c.length ∧ (c.drop o).take i.size = l) ∧ K (.val (.agg l.toArray) [] 0)
        | _, _ => False)
      | _ => False)
    else K (aLoad P t a G)
  | _ => K (aLoad P t a G)
theorem sLoad_imp {t : TypeId} {a : Value} {G : Gh} {K : ORes → Prop} (h : sLoad P sy t a G K) : K (aLoad P t a G) := by
  unfold sLoad at h
  split at h
  · rename_i b o
    cases hb : sy.elem b with
    | false => rw [hb] at h; exact h
    | true =>
      rw [hb] at h
      simp only [cond_true] at h
      unfold aLoad
      split at h
      · rename_i c e hg
        simp only [hg]
        split at h
        · rename_i i ha hi
          obtain ⟨l, hl⟩ := exL_imp _ _ h
          split at hl
          · rename_i u
            obtain ⟨hu, hk⟩ := hl
            simp only [ha, hu]; exact hk
          · exact hl.elim
        · rename_i i ha hi
          obtain ⟨l, ⟨h1, rfl⟩, hk⟩ := exL_imp _ _ h
          simp only [ha, hi]
          rw [Nat.ble_eq_true_of_le h1]; exact hk
        · exact h.elim
      · exact h.elim
  · exact h

/-- The address of an element of a slice. -/
def sIndexAddr (t : TypeId) (v i : Value) (K : ORes → Prop) : Prop :=
  match P.underlying t, v, i with
  | some (.slice e), .slice (some ⟨b, o, none⟩) n _, .int _ i =>
    (match P.info? e with
    | some inf => brK (inI i n) (K (.val (.pointer (some ⟨b, o + i.toNat * inf.size, none⟩)) [] 0)) (K (aBounds P))
    | none => False)
  | _, _, _ => K (aIndexAddr P t v i)
theorem sIndexAddr_imp {t : TypeId} {v i : Value} {K : ORes → Prop} (h : sIndexAddr P t v i K) : K (aIndexAddr P t v i) := by
  unfold sIndexAddr at h
  split at h
  · rename_i e b o n c k i hu
    split at h
    · rename_i inf hi
      unfold aIndexAddr
      simp only [hu, hi]
      cases hb : inI i n with
      | true => rw [hb] at h; unfold inI at hb; rw [hb]; exact h
      | false => rw [hb] at h; unfold inI at hb; rw [hb]; exact h
    · exact h.elim
  · exact h

/-- Strings. -/
def sStr (o : Oper) (ev : Operand → Value) (K : ORes → Prop) (D : Prop) : Prop :=
  match o.op with
  | .index t x y => (match P.underlying t, ev x, ev y with
    | some .string, .string s, .int _ i => inI i s.data.size = true ∧ K (.val (.int .u8 (atS s i).toNat) [] 0)
    | _, _, _ => D)
  | .slice t x lo hi none => (match P.underlying t, ev x with
    | some .string, .string s => (match loI (lo.map ev) 0, loI (hi.map ev) s.data.size with
      | some l, some h => inLH l h s.data.size = true ∧ K (.val (.string (subS s l.toNat h.toNat)) [] 0)
      | _, _ => False)
    | _, _ => D)
  | _ => D
theorem sStr_imp {o : Oper} {ev : Operand → Value} {K : ORes → Prop} {D : Prop} (h : sStr P o ev K D) : D ∨ (∃ v, aStr P o ev = .val v [] 0 ∧ K (.val v [] 0)) := by
  unfold sStr at h
  split at h
  · rename_i t x y ho
    split at h
    · rename_i s k i hu h1 h2
      obtain ⟨hi, hk⟩ := h
      refine .inr ⟨_, ?_, hk⟩
      unfold aStr
      simp only [ho, hu, h1, h2]
      simp only [inI, Bool.and_eq_true, decide_eq_true_eq] at hi
      have hl : i.toNat < s.data.toList.length := by rw [Array.length_toList]; omega
      rw [decide_eq_true hi.1]
      simp only [cond_true, List.getElem?_eq_getElem hl]
      simp [atS, List.getD_eq_getElem?_getD, List.getElem?_eq_getElem hl, -Array.getElem_toList, -Array.getElem?_toList, -Array.length_toList]
    · exact .inl h
  · rename_i t x lo hi ho
    split at h
    · rename_i s hu h1
      split at h
      · rename_i l hh hlo hhi
        obtain ⟨hb, hk⟩ := h
        refine .inr ⟨_, ?_, hk⟩
        unfold aStr
        simp only [ho, hu, h1]
        simp only [inLH, Bool.and_eq_true, decide_eq_true_eq] at hb
        obtain ⟨⟨b1, b2⟩, b3⟩ := hb
        have e2 : sbound (hi.map ev) s.data.size s.data.size = some hh.toNat := by
          unfold loI at hhi
          cases hm : hi.map ev with
          | none => rw [hm] at hhi; simp at hhi; subst hhi; simp [sbound]
          | some u =>
            rw [hm] at hhi
            cases u <;> simp only [] at hhi <;> first | (cases hhi; done) | skip
            cases hhi
            exact sbound_int.2 ⟨by omega, b3, rfl⟩
        have e1 : sbound (lo.map ev) hh.toNat 0 = some l.toNat := by
          unfold loI at hlo
          cases hm : lo.map ev with
          | none => rw [hm] at hlo; simp at hlo; subst hlo; simp [sbound]
          | some u =>
            rw [hm] at hlo
            cases u <;> simp only [] at hlo <;> first | (cases hlo; done) | skip
            cases hlo
            exact sbound_int.2 ⟨b1, by omega, rfl⟩
        simp only [e2, e1]; rfl
      · exact h.elim
    · exact .inl h
  · exact .inl h

/-- A division of which the divisor is not known. -/
def sRem (o : Oper) (ev : Operand → Value) (K : ORes → Prop) (D : Prop) : Prop :=
  match o.op with
  | .binOp .rem _ x y _ => (match ev x, ev y with
    | .int k a, .int k' b => bif decide (k = k') then (b == 0) = false ∧ K (.val (.int k (a.tmod b)) [] 0) else False
    | _, _ => D)
  | _ => D
theorem sRem_imp {o : Oper} {ev : Operand → Value} {K : ORes → Prop} {D : Prop} (h : sRem o ev K D) : D ∨ (∃ v, aPure P ev o = .val v [] 0 ∧ K (.val v [] 0) ∧ ∃ t x y u, o.op = .binOp .rem t x y u) := by
  unfold sRem at h
  split at h
  · rename_i t x y u ho
    split at h
    · rename_i k a k' b h1 h2
      cases hk : decide (k = k') with
      | false => rw [hk] at h; exact h.elim
      | true =>
        rw [hk] at h
        have hk := of_decide_eq_true hk
        subst hk
        obtain ⟨hb, h⟩ := h
        have hb : b ≠ 0 := by simpa using hb
        refine .inr ⟨_, ?_, h, t, x, y, u, ho⟩
        have h3 : pureR P (execOp ev o) = .ok (.value (.int k (a.tmod b))) := by
          simp [execOp, ho, h1, h2, eqGuard, binOp, Op.intDiv, hb]
        unfold aPure
        rw [show plainOps ev o = true by simp [plainOps, ho, Op.operands, h1, h2, plainV], show noSel o = true by simp [noSel, ho]]
        simp only [Bool.and_true, cond_true, h3]; rfl
    · exact .inl h
  · exact .inl h

/-- A number looked up among numbers. -/
def noKey (b : Int) (es : List MapEntry) : Bool := es.all fun e => match e.key with | .int _ b' => !(b == b') | _ => false
def sFind (a : Int) : List MapEntry → (Option Value → Prop) → Prop
  | [], K => K none
  | e :: es, K => match e.key with | .int _ b => brK (a == b) (bif noKey b es then K (some e.val) else False) (sFind a es K) | _ => False
def intKeys (k : IntKind) (es : List MapEntry) : Bool := es.all fun e => match e.key with | .int k' _ => decide (k' = k) | _ => false
theorem eqK_int {kt : TypeId} {ik : IntKind} (hd : P.underlying kt = some (.int ik)) {a b : Int} {e : MapEntry} (he : e.key = .int ik b) : eqK P kt (.int ik a) e = some (a == b) := by
  have heq : pureR P (Op.equal kt (.int ik a) (.int ik b)) = .ok (a == b) := by
    unfold Op.equal Op.maxDepth Op.equalIn
    refine (pureR_bind' P (Go.underlying kt) _).trans ?_
    rw [pureR_underlying hd]
    simp only [PRes.bind, if_true]
    rfl
  unfold eqK
  rw [he, heq]
theorem sFind_imp {kt : TypeId} {ik : IntKind} (hd : P.underlying kt = some (.int ik)) {a : Int} : ∀ {es : List MapEntry} {K : Option Value → Prop} (i : Nat), intKeys ik es = true → sFind a es K → ∃ q, aFind P kt (.int ik a) es i = some q ∧ K (q.map (·.2))
  | [], K, i, _, h => ⟨none, rfl, h⟩
  | e :: es, K, i, hk, h => by
    simp only [intKeys, List.all_cons, Bool.and_eq_true] at hk
    unfold sFind at h
    unfold aFind
    cases hke : e.key with
    | int k' b =>
      rw [hke] at h hk
      have hk1 : k' = ik := of_decide_eq_true hk.1
      subst hk1
      rw [eqK_int P hd hke]
      simp only [] at h
      cases hb : (a == b) with
      | true =>
        rw [hb] at h
        have hab : a = b := by simpa using hb
        subst hab
        have h : (bif noKey a es then K (some e.val) else False) := h
        cases hn : noKey a es with
        | false => rw [hn] at h; exact h.elim
        | true =>
          rw [hn] at h
          have hall : (es.all fun x => match eqK P kt (.int k' a) x with | some false => true | _ => false) = true := by
            refine List.all_eq_true.2 fun x hx => ?_
            have h1 := List.all_eq_true.1 hk.2 x hx
            have h2 := List.all_eq_true.1 hn x hx
            cases hx' : x.key with
            | int k2 b2 =>
              rw [hx'] at h1 h2
              have hk2 : k2 = k' := of_decide_eq_true h1
              subst hk2
              rw [eqK_int P hd hx']
              simp only [Bool.not_eq_true'] at h2
              rw [h2]
            | _ => rw [hx'] at h1; cases h1
          refine ⟨some (i, e.val), ?_, h⟩
          show (bif (es.all fun x => match eqK P kt (.int k' a) x with | some false => true | _ => false) then some (some (i, e.val)) else none) = _
          rw [hall]; rfl
      | false => rw [hb] at h; exact sFind_imp hd (i + 1) hk.2 h
    | _ => rw [hke] at h; exact h.elim

def sLookup (t : TypeId) (m k : Value) (ok : Bool) (G : Gh) (K : ORes → Prop) (D : Prop) : Prop :=
  match P.underlying t, m, k with
  | some (.map kt et), .map (some r), .int ik a =>
    (match G r, P.underlying kt with
    | some (.map es _), some (.int ik') =>
      bif decide (ik' = ik) && plainKeys es && keyOk P kt es.isEmpty (.int ik a) && intKeys ik es then
        (match (P.info? et).bind (·.zero) with
        | some z => bif plainV 8 z then sFind a es fun q => (match q with
          | some v => K (.val (bif ok then .tuple #[v, .bool true] else v) [] 0)
          | none => K (.val (bif ok then .tuple #[z, .bool false] else z) [] 0)) else False
        | none => False)
      else D
    | _, _ => D)
  | _, _, _ => D
theorem sLookup_imp {t : TypeId} {m k : Value} {ok : Bool} {G : Gh} {K : ORes → Prop} {D : Prop} (h : sLookup P t m k ok G K D) : D ∨ ∃ v, aLookup P t m k ok G = .val v [] 0 ∧ K (.val v [] 0) := by
  unfold sLookup at h
  split at h
  · rename_i kt et r ik a hu
    split at h
    · rename_i es ck ik' hg hd
      cases hc : (decide (ik' = ik) && plainKeys es && keyOk P kt es.isEmpty (.int ik a) && intKeys ik es) with
      | false => rw [hc] at h; exact .inl h
      | true =>
        rw [hc] at h
        simp only [Bool.and_eq_true] at hc
        obtain ⟨⟨⟨h1, h2⟩, h3⟩, h4⟩ := hc
        have h1 := of_decide_eq_true h1
        subst h1
        simp only [cond_true] at h
        cases hz : (P.info? et).bind (·.zero) with
        | none => rw [hz] at h; exact h.elim
        | some z =>
          rw [hz] at h
          simp only [] at h
          cases hp : plainV 8 z with
          | false => rw [hp] at h; exact h.elim
          | true =>
            rw [hp] at h
            simp only [cond_true] at h
            obtain ⟨q, hq, hk⟩ := sFind_imp P hd 0 h4 h
            obtain ⟨inf, hi, hz'⟩ := Option.bind_eq_some_iff.1 hz
            right
            unfold aLookup
            simp only [hu, hg, hd, h2, h3, Bool.and_self, cond_true, hq]
            cases q with
            | none => simp only [hi, hz', hp, cond_true]; exact ⟨_, rfl, hk⟩
            | some iv => exact ⟨_, rfl, hk⟩
    · exact .inl h
  · exact .inl h

/-! ### append -/
/-- What is appended. -/
def sSrc (sz : Nat) (x : Value) (G : Gh) (K : Nat → List Value → Prop) : Prop :=
  match x with
  | .slice (some ⟨b, o, none⟩) n c => bif sy.elem b then ∃ cs, srcCells G sz (.slice (some ⟨b, o, none⟩) n c) = some (n, cs) ∧ K n cs else (match srcCells G sz (.slice (some ⟨b, o, none⟩) n c) with | some (m, cs) => K m cs | none => False)
  | .string s => bif sz.beq 1 then K s.data.toList.length (s.data.toList.map fun b => .int .u8 b.toNat) else False
  | x => (match srcCells G sz x with | some (m, cs) => K m cs | none => False)
theorem sSrc_imp {sz : Nat} {x : Value} {G : Gh} {K : Nat → List Value → Prop} (h : sSrc sy sz x G K) : ∃ m cs, srcCells G sz x = some (m, cs) ∧ K m cs := by
  unfold sSrc at h
  split at h
  · rename_i b o n c
    cases hb : sy.elem b with
    | true => rw [hb] at h; obtain ⟨cs, h1, h2⟩ := h; exact ⟨n, cs, h1, h2⟩
    | false =>
      rw [hb] at h
      simp only [cond_false] at h
      split at h
      · exact ⟨_, _, ‹_›, h⟩
      · exact h.elim
  · cases hz : sz.beq 1 with
    | true => rw [hz] at h; exact ⟨_, _, by simp [srcCells, hz], h⟩
    | false => rw [hz] at h; exact h.elim
  · split at h
    · exact ⟨_, _, ‹_›, h⟩
    · exact h.elim

/-- Onto a list of one's own, of which the room is not known. -/
def sAppend (sT xT : TypeId) (s x : Value) (G : Gh) (n : Nat) (K : ORes → Prop) (D : Prop) : Prop :=
  match s with
  | .slice (some ⟨b, o, none⟩) l c =>
    bif c.beq U then
      (match P.underlying sT with
      | some (.slice e) => (match P.info? e with
        | some i => (match i.zero with
          | some z => bif notInt P xT && !(i.size.beq 0) && z.cells.size.beq i.size then
              sSrc sy i.size x G fun m news => brK (m.beq 0) (K (.val (.slice (some ⟨b, o, none⟩) l c) [] 0))
                (match G b with
                | some (.cells cc e') => (o.beq 0 && e'.beq e && (l * i.size).ble cc.length && oneL news && decide ((l + m) * i.bytes ≤ 140737488355328) && decide (l + m ≤ 9223372036854775807) && Nat.blt cc.length (o + l * i.size + news.length)) = true ∧ K (.val (.slice (some ⟨n, 0, none⟩) (l + m) U) [(b, none), (n, some (.cells (cc.take (l * i.size) ++ news) e))] 1)
                | _ => False)
            else False
          | none => False)
        | none => False)
      | _ => False)
    else D
  | _ => D
theorem sAppend_imp {sT xT : TypeId} {s x : Value} {G : Gh} {n : Nat} {K : ORes → Prop} {D : Prop} (h : sAppend P sy sT xT s x G n K D) : D ∨ ∃ v us k, aAppend P sT xT s x G n = .val v us k ∧ K (.val v us k) := by
  unfold sAppend at h
  split at h
  · rename_i b o l c
    cases hc : c.beq U with
    | false => rw [hc] at h; exact .inl h
    | true =>
      rw [hc] at h
      simp only [cond_true] at h
      split at h
      · rename_i e hu
        split at h
        · rename_i i hi
          split at h
          · rename_i z hz
            cases hq : (notInt P xT && !(i.size.beq 0) && z.cells.size.beq i.size) with
            | false => rw [hq] at h; exact h.elim
            | true =>
              rw [hq] at h
              simp only [Bool.and_eq_true, Bool.not_eq_true'] at hq
              obtain ⟨m, news, h1, h2⟩ := sSrc_imp sy h
              right
              unfold aAppend
              simp only [hu, hq.1.1, hi, hq.1.2, hz, hq.2, h1, cond_true, cond_false, hc, Bool.true_or]
              cases hm : m.beq 0 with
              | true => rw [hm] at h2; exact ⟨_, _, _, rfl, h2⟩
              | false =>
                rw [hm] at h2
                simp only [cond_false]
                cases hg : G b with
                | none => rw [hg] at h2; exact h2.elim
                | some ob =>
                  cases ob with
                  | cells cc e' =>
                    rw [hg] at h2
                    obtain ⟨h3, h4⟩ := h2
                    rw [Bool.and_eq_true] at h3
                    have hlt : cc.length + 1 ≤ o + l * i.size + news.length := Nat.le_of_ble_eq_true h3.2
                    have hr : roomy G b (o + l * i.size) news e i.size = false := by
                      unfold roomy
                      rw [hg]
                      have : (o + l * i.size + news.length).ble cc.length = false := by cases hq : (o + l * i.size + news.length).ble cc.length; rfl; exact absurd (Nat.le_of_ble_eq_true hq) (by omega)
                      simp only [this, Bool.false_and]
                    simp only [hr, Bool.and_false, cond_false, h3.1, cond_true]
                    exact ⟨_, _, _, rfl, h4⟩
                  | _ => rw [hg] at h2; exact h2.elim
          · exact h.elim
        · exact h.elim
      · exact h.elim
  · exact .inl h

/-! ### build, by lists -/
def wrL : List Value → Nat → List Value → List Value
  | c, _, [] => c
  | c, o, v :: vs => wrL (c.set o v) (o + 1) vs
theorem wrL_eq (off : Nat) : ∀ (vs : List Value) (k : Nat) (arr : Array Value), ((vs.zipIdx k).foldl (fun cs (x : Value × Nat) => cs.setIfInBounds (off + x.2) x.1) arr).toList = wrL arr.toList (off + k) vs
  | [], k, arr => rfl
  | v :: vs, k, arr => by
    simp only [List.zipIdx_cons, List.foldl_cons, wrL]
    rw [wrL_eq off vs (k + 1), Array.toList_setIfInBounds]; rfl
def cellsL (v : Value) : List Value := match v with | .agg a => a.toList | v => [v]
theorem cellsL_eq (v : Value) : cellsL v = v.cells.toList := by cases v <;> rfl
def fillL (place : Nat → Option (Nat × Nat)) : List Value → List (Nat × Value) → Option (List Value)
  | c, [] => some c
  | c, (i, v) :: rest =>
    match place i with
    | none => none
    | some (off, size) => bif (cellsL v).length.beq size && (off + (cellsL v).length).ble c.length then fillL place (wrL c off (cellsL v)) rest else none
theorem fillL_eq (place : Nat → Option (Nat × Nat)) : ∀ (ps : List (Nat × Value)) (c : Array Value) (l : List Value), fillL place c.toList ps = some l → Instr.fill place c ps = some l.toArray
  | [], c, l, h => by simp only [fillL, Option.some.injEq] at h; subst h; simp [Instr.fill]
  | (i, v) :: rest, c, l, h => by
    unfold fillL at h
    unfold Instr.fill
    cases hp : place i with
    | none => rw [hp] at h; cases h
    | some os =>
      obtain ⟨off, size⟩ := os
      rw [hp] at h
      simp only [] at h ⊢
      cases hb : ((cellsL v).length.beq size && (off + (cellsL v).length).ble c.toList.length) with
      | false => rw [hb] at h; cases h
      | true =>
        rw [hb] at h
        simp only [Bool.and_eq_true] at hb
        have h1 := Nat.eq_of_beq_eq_true hb.1
        have h2 := Nat.le_of_ble_eq_true hb.2
        rw [cellsL_eq] at h1 h2
        simp only [Array.length_toList] at h1 h2
        rw [if_neg (by simp [h1]; omega)]
        refine fillL_eq place rest _ l ?_
        rw [← h, cellsL_eq]
        simp only [cond_true]
        congr 1
        rw [← Array.foldl_toList, Array.toList_zipIdx, wrL_eq]; rfl

def sBuild (t : TypeId) (ps : List (Nat × Value)) (K : ORes → Prop) : Prop :=
  bif zeroPlain P t then
    (match P.info? t, P.underlying t with
    | some it, some (.struct fields) => (match it.zero, fields.toList.mapM (fun f => (P.info? f.type).map fun i => (f.offset, i.size)) with
      | some z, some places => (match fillL (fun i => places[i]?) (cellsL z) ps with | some l => K (.val (.agg l.toArray) [] 0) | none => False)
      | _, _ => False)
    | _, _ => K (aBuild P t ps))
  else False
theorem sBuild_imp {t : TypeId} {ps : List (Nat × Value)} {K : ORes → Prop} (h : sBuild P t ps K) : K (aBuild P t ps) := by
  unfold sBuild at h
  cases hz : zeroPlain P t with
  | false => rw [hz] at h; exact h.elim
  | true =>
    rw [hz] at h
    simp only [cond_true] at h
    split at h
    · rename_i it fields hi hu
      split at h
      · rename_i z places h1 h2
        split at h
        · rename_i l hl
          unfold aBuild Program.built
          simp only [hz, cond_true, hi, hu, h1, h2]
          have : Instr.fill (fun i => places.toArray[i]?) z.cells ps = some l.toArray := by
            refine fillL_eq _ ps z.cells l ?_
            rw [← cellsL_eq, ← hl]
            congr 1
            funext i; simp
          rw [this]; exact h
        · exact h.elim
      · exact h.elim
    · exact h

/-- Zeros, so many. -/
def zerosL (c : List Value) (d : Nat) : Nat → Nat → List Value
  | 0, _ => []
  | n + 1, i => c.getD (i % d) default :: zerosL c d n (i + 1)
theorem zerosL_eq (c : List Value) (d : Nat) : ∀ (n i : Nat), zerosL c d n i = (List.range' i n).map fun j => c.getD (j % d) default
  | 0, i => rfl
  | n + 1, i => by simp only [zerosL, List.range'_succ, List.map_cons]; rw [zerosL_eq c d n (i + 1)]
theorem rowZero_list (z : Value) (n : Nat) : (rowZero z n).toList = zerosL (cellsL z) (cellsL z).length n 0 := by
  rw [zerosL_eq, cellsL_eq, ← List.range_eq_range']
  simp [rowZero, List.getD_eq_getElem?_getD, Array.getElem!_eq_getD]
def sBuildSlice (t : TypeId) (len : Nat) (ps : List (Nat × Value)) (n : Nat) (K : ORes → Prop) : Prop :=
  match P.underlying t with
  | some (.slice e) => (match P.info? e with
    | some i => (match i.zero with
      | some z => bif (Nat.ble (len * i.size) 16777216) && (Nat.blt len 1180591620717411303424) then
          (bif plainL (zerosL (cellsL z) (cellsL z).length (len * i.size) 0) then
            (match fillL (fun k => some (k * i.size, i.size)) (zerosL (cellsL z) (cellsL z).length (len * i.size) 0) ps with
            | some l => K (newCells n l e (.slice (some ⟨n, 0, none⟩) len len))
            | none => False) else False)
        else False
      | none => False)
    | none => False)
  | _ => False
theorem sBuildSlice_imp {t : TypeId} {len : Nat} {ps : List (Nat × Value)} {n : Nat} {K : ORes → Prop} (h : sBuildSlice P t len ps n K) : K (aBuildSlice P t len ps n) := by
  unfold sBuildSlice at h
  split at h
  · rename_i e hu
    split at h
    · rename_i i hi
      split at h
      · rename_i z hz
        cases hb : ((Nat.ble (len * i.size) 16777216) && (Nat.blt len 1180591620717411303424)) with
        | false => rw [hb] at h; exact h.elim
        | true =>
          rw [hb] at h
          simp only [cond_true] at h
          cases hp : plainL (zerosL (cellsL z) (cellsL z).length (len * i.size) 0) with
          | false => rw [hp] at h; exact h.elim
          | true =>
            rw [hp] at h
            simp only [cond_true] at h
            split at h
            · rename_i l hl
              rw [← rowZero_list] at hp hl
              unfold aBuildSlice
              simp only [hu, hi, hz, hb, cond_true, hp, fillL_eq _ ps _ l hl]
              exact h
            · exact h.elim
      · exact h.elim
    · exact h.elim
  · exact h.elim
end
end Go.Proofs.YtgfjmkjhjfmbeaaGreat
