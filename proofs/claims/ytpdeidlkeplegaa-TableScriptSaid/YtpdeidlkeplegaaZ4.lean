/- DERIVED. Texts put together: M4. -/
import Derived.Laws.Panics
import Derived.Orders
import Derived.Test.YtpdeidlkeplegaaZ3
set_option maxRecDepth 1000000
set_option maxHeartbeats 32000000
namespace Go.Proofs.Ytpdeidlkeplegaa
open Go.RowKit
theorem VL.set {E : Env} {a a' : List Value} (h : VL E a a') {v v' : Value} (hv : VR E v v') (i : Nat) : VL E (a.set i v) (a'.set i v') := by
 induction a generalizing a' i with
 | nil => cases h; simp; exact .nil
 | cons u l ih => cases h with | cons _ u' _ l' hu ht => cases i with | zero => exact .cons _ _ _ _ hv ht | succ i => exact .cons _ _ _ _ hu (ih ht i)
inductive PL (E : Env) : List (Nat × Value) → List (Nat × Value) → Prop
 | nil : PL E [] []
 | cons (i : Nat) (v v' : Value) (l l' : List (Nat × Value)) (h : VR E v v') (t : PL E l l') : PL E ((i, v) :: l) ((i, v') :: l')
theorem zNe {E : Env} (off : Nat) : ∀ (l l' : List Value) (k : Nat), VL E l l' → ∀ (c c' : Array Value), VL E c.toList c'.toList →
  VL E ((l.zipIdx k).foldl (fun cs (x : Value × Nat) => cs.setIfInBounds (off + x.2) x.1) c).toList ((l'.zipIdx k).foldl (fun cs (x : Value × Nat) => cs.setIfInBounds (off + x.2) x.1) c').toList
 | _, _, _, .nil, c, c', h => h
 | _, _, k, .cons v v' l l' hv ht, c, c', h => by
  simp only [List.zipIdx_cons, List.foldl_cons]
  refine zNe off l l' (k + 1) ht _ _ ?_
  simp only [Array.toList_setIfInBounds]
  exact h.set hv _
theorem zId {E : Env} (place : Nat → Option (Nat × Nat)) : ∀ (ps ps' : List (Nat × Value)), PL E ps ps' → ∀ (c c' : Array Value), VL E c.toList c'.toList → ∀ r, Instr.fill place c ps = some r → ∃ r', Instr.fill place c' ps' = some r' ∧ VL E r.toList r'.toList
 | _, _, .nil, c, c', h, r, hr => by simp [Instr.fill] at hr ⊢; subst hr; exact h
 | _, _, .cons i v v' l l' hv ht, c, c', h, r, hr => by
  simp only [Instr.fill] at hr ⊢
  cases hp : place i with
  | none => simp [hp] at hr
  | some os =>
   obtain ⟨off, size⟩ := os
   simp only [hp] at hr ⊢
   have hvc := hv.cells
   have e1 : v'.cells.size = v.cells.size := by have := hvc.length; simpa using this.symm
   have e2 : c'.size = c.size := by have := h.length; simpa using this.symm
   rw [e1, e2]
   split at hr
   ·cases hr
   ·rename_i hc
    rw [if_neg hc]
    refine zId place l l' ht _ _ ?_ r hr
    simp only [← Array.foldl_toList, Array.toList_zipIdx]
    exact zNe off _ _ 0 hvc _ _ h
theorem built_rel {P : Program} {E : Env} {t : TypeId} {ps ps' : List (Nat × Value)} (h : PL E ps ps') {r : Array Value} (hz : ∀ i z, P.info? t = some i → i.zero = some z → plainL z.cells.toList = true) (hr : P.built t ps = some r) : ∃ r', P.built t ps' = some r' ∧ VL E r.toList r'.toList := by
 unfold Program.built at hr ⊢
 cases hit : P.info? t with
 | none => simp [hit] at hr
 | some it =>
  cases hu : P.underlying t with
  | none => simp [hit, hu] at hr
  | some d =>
   cases hzz : it.zero with
   | none => cases d <;> simp [hit, hu, hzz] at hr
   | some z =>
    have hzp := zBq (E := E) (hz it z hit hzz)
    cases d <;> try (simp [hit, hu] at hr; done)
    case array n e =>
     cases hie : P.info? e with
     | none => simp [hit, hu, hzz, hie] at hr
     | some ie =>
      simp only [hit, hu, hzz, hie] at hr ⊢
      exact zId _ ps ps' h _ _ hzp r hr
    case struct fields =>
     cases hp : fields.toList.mapM (fun f => (P.info? f.type).map fun i => (f.offset, i.size)) with
     | none => simp [hit, hu, hzz, hp] at hr
     | some places =>
      simp only [hit, hu, hzz, hp] at hr ⊢
      exact zId _ ps ps' h _ _ hzp r hr
def zDg (P : Program) (t : TypeId) : Bool := match P.info? t with | some i => (match i.zero with | some z => plainL z.cells.toList | none => false) | none => false
theorem zKg {P : Program} {t : TypeId} (h : zDg P t = true) : ∀ i z, P.info? t = some i → i.zero = some z → plainL z.cells.toList = true := by
 intro i z hi hz; simpa [zDg, hi, hz] using h
def pvals (ev : Operand → Value) (ps : Array (Nat × Operand)) : List (Nat × Value) := ps.toList.map fun x => (x.1, ev x.2)
theorem zJn {E : Env} {ev ev' : Operand → Value} : ∀ {l : List (Nat × Operand)}, (∀ x ∈ l, VR E (ev x.2) (ev' x.2)) → PL E (l.map fun x => (x.1, ev x.2)) (l.map fun x => (x.1, ev' x.2))
 | [], _ => .nil
 | x :: l, h => .cons _ _ _ _ _ (h x (by simp)) (zJn (fun y hy => h y (by simp [hy])))
def zKh (P : Program) (t : TypeId) (ps : List (Nat × Value)) : ORes :=
 bif zDg P t then (match P.built t ps with | some cs => .val (.agg cs) [] 0 | none => .bad "build") else .bad "build: zero"
theorem aBuild_ok {P : Program} {E : Env} {G : Gh} {n : Nat} {w : World} (h : HR P E G w) (t : TypeId) (ps : Array (Nat × Operand)) {ev ev' : Operand → Value} {o : Oper} (ho : o.op = .build t ps) (hv : ∀ x ∈ o.op.operands, VR E (ev x) (ev' x)) :
  Sound1 P E G n w ((execOp ev' o).run P w) (zKh P t (pvals ev ps)) := by
 unfold zKh
 cases hz : zDg P t with
 | false => trivial
 | true =>
  simp only [cond_true]
  cases hb : P.built t (pvals ev ps) with
  | none => trivial
  | some cs =>
   have hp : PL E (pvals ev ps) (pvals ev' ps) := zJn (fun x hx => hv x.2 (by rw [ho]; simp [Op.operands]; exact ⟨x.1, by simpa using hx⟩))
   obtain ⟨r', hr, hl⟩ := built_rel hp (zKg hz) hb
   refine Sound1.pure h (v' := .agg r') ?_ (.agg _ _ hl)
   have e : (ps.map fun (i, x) => (i, ev' x)).toList = pvals ev' ps := by simp [pvals]
   simp [execOp, ho, run_build w t (ps.map fun (i, x) => (i, ev' x)) r' (by rw [e]; exact hr)]
def zHh (z : Value) (n : Nat) : Array Value := (Array.range n).map (z.cells[· % z.cells.size]!)
def zCi (P : Program) (t : TypeId) (len : Nat) (ps : List (Nat × Value)) (n : Nat) : ORes :=
 match P.underlying t with
 | some (.slice e) => match P.info? e with
  | some i => match i.zero with
   | some z =>
    bif (Nat.ble (len * i.size) 16777216) && (Nat.blt len 1180591620717411303424) then
     let zs := zHh z (len * i.size)
     bif plainL zs.toList then
      match Instr.fill (fun k => some (k * i.size, i.size)) zs ps with
      | some cs => zBo n cs.toList e (.slice (some ⟨n, 0, none⟩) len len)
      | none => .bad "buildSlice: fill"
     else .bad "buildSlice: zero"
    else .bad "buildSlice: size"
   | none => .bad "buildSlice: no zero"
  | none => .bad "buildSlice: no type"
 | _ => .bad "buildSlice: no slice"
theorem lt_U {n : Nat} (h : Nat.blt n 1180591620717411303424 = true) : n ≠ U := by
 have : n + 1 ≤ 1180591620717411303424 := Nat.le_of_ble_eq_true h
 unfold U; omega
theorem zKb {P : Program} {E : Env} {G : Gh} {n : Nat} {w : World} (h : HR P E G w) (t : TypeId) (len : Nat) (ps : Array (Nat × Operand)) {ev ev' : Operand → Value} {o : Oper} (ho : o.op = .buildSlice t len ps) (hv : ∀ x ∈ o.op.operands, VR E (ev x) (ev' x)) :
  Sound1 P E G n w ((execOp ev' o).run P w) (zCi P t len (pvals ev ps) n) := by
 unfold zCi
 split
 ·rename_i e hu
  cases hi : P.info? e with
  | none => trivial
  | some i =>
   simp only []
   cases hz : i.zero with
   | none => trivial
   | some z =>
    simp only []
    cases hb : ((Nat.ble (len * i.size) 16777216) && (Nat.blt len 1180591620717411303424)) with
    | false => trivial
    | true =>
     simp only [Bool.and_eq_true] at hb
     have h1 : len * i.size ≤ 16777216 := Nat.le_of_ble_eq_true hb.1
     have h3 := lt_U hb.2
     simp only [cond_true]
     cases hp : plainL (zHh z (len * i.size)).toList with
     | false => trivial
     | true =>
      simp only [cond_true]
      cases hf : Instr.fill (fun k => some (k * i.size, i.size)) (zHh z (len * i.size)) (pvals ev ps) with
      | none => trivial
      | some cs =>
       have hpl : PL E (pvals ev ps) (pvals ev' ps) := zJn (fun x hx => hv x.2 (by rw [ho]; simp [Op.operands]; exact ⟨x.1, by simpa using hx⟩))
       obtain ⟨r', hr, hl⟩ := zId _ _ _ hpl _ _ (zBq hp) cs hf
       refine Sound1.new h (.cells r' e) _ r'.size i.size ?_ (fun hfr => zIh hfr (by simp [hi]) hl) (zNy h3)
       have hn : ¬ (2 ^ 24 < len * i.size) := by omega
       simp only [zHh, pvals] at hr
       by_cases h2 : len * i.size = 0
       ·rw [h2] at hr
        have e0 : ∀ f : Nat → Value, (Array.range 0).map f = #[] := fun f => by simp
        rw [e0] at hr
        simp [execOp, ho, Instr.buildSlice, run_underlying hu, sizeOf, typeInfo, hi, h2, e0, hr, newRow]
       ·simp [execOp, ho, Instr.buildSlice, run_underlying hu, sizeOf, typeInfo, hi, zeroValue, hz, hn, h2, hr, newRow]
 ·trivial
def zLh (v : Value) (k : Nat) : ORes := match v with | .tuple vs => (match vs.toList[k]? with | some u => .val u [] 0 | none => .bad "extract") | _ => .bad "extract: no tuple"
theorem zOj {P : Program} {E : Env} {G : Gh} {n : Nat} {w : World} (h : HR P E G w) (x : Operand) (k : Nat) {ev : Operand → Value} {v : Value} {o : Oper} (ho : o.op = .extract x k) (hv : VR E v (ev x)) :
  Sound1 P E G n w ((execOp ev o).run P w) (zLh v k) := by
 unfold zLh
 split
 ·rename_i vs
  obtain ⟨vs', hev, hl⟩ : ∃ vs', ev x = .tuple vs' ∧ VL E vs.toList vs'.toList := by
   cases hv' : ev x <;> rw [hv'] at hv <;> cases hv
   exact ⟨_, rfl, ‹_›⟩
  cases hk : vs.toList[k]? with
  | none => trivial
  | some u =>
   obtain ⟨u', hu', hr⟩ := hl.at k u hk
   refine Sound1.pure h (v' := u') ?_ hr
   have hu'' : vs'[k]? = some u' := by simpa using hu'
   simp [execOp, ho, hev, Instr.extract, hu'']
 ·trivial
def zRs (P : Program) (t : TypeId) (cs : List Value) (off : Nat) : Option Value :=
 match aggT P t with
 | none => none
 | some false => cs[off]?
 | some true => match P.info? t with
  | none => none
  | some i => some (.agg ((cs.drop off).take i.size).toArray)
theorem zPz {P : Program} {E : Env} {t : TypeId} {cs cs' : Array Value} {off : Nat} {v : Value} (hl : VL E cs.toList cs'.toList) (h : zRs P t cs.toList off = some v) : ∃ v', VR E v v' ∧ ∀ w, (part t cs' off).run P w = .ok v' w := by
 unfold zRs at h
 cases ha : aggT P t with
 | none => simp [ha] at h
 | some ag =>
  cases ag with
  | false =>
   simp only [ha] at h
   obtain ⟨v', h1, h2⟩ := hl.at off v h
   have h1' : cs'[off]? = some v' := by simpa using h1
   exact ⟨v', h2, fun w => by simp [part, zBn ha, h1']⟩
  | true =>
   simp only [ha] at h
   cases hi : P.info? t with
   | none => simp [hi] at h
   | some i =>
    simp only [hi, Option.some.injEq] at h
    subst h
    refine ⟨.agg ((cs'.toList.drop off).take i.size).toArray, .agg _ _ (by simpa using (hl.drop off).take i.size), fun w => ?_⟩
    have e : cs'.extract off (off + i.size) = ((cs'.toList.drop off).take i.size).toArray := by
     apply Array.ext'
     simp [Array.toList_extract, List.extract_eq_take_drop]
    simp [part, zBn ha, sizeOf, typeInfo, hi, e]
def aField (P : Program) (t : TypeId) (v : Value) (k : Nat) : ORes :=
 match P.underlying t, v with
 | some (.struct fs), .agg cs => (match fs[k]? with
  | some f => (match zRs P f.type cs.toList f.offset with | some u => .val u [] 0 | none => .bad "field: part")
  | none => .bad "field: none")
 | _, _ => .bad "field"
theorem aField_ok {P : Program} {E : Env} {G : Gh} {n : Nat} {w : World} (h : HR P E G w) (t : TypeId) (x : Operand) (k : Nat) {ev : Operand → Value} {v : Value} {o : Oper} (ho : o.op = .field t x k) (hv : VR E v (ev x)) :
  Sound1 P E G n w ((execOp ev o).run P w) (aField P t v k) := by
 unfold aField
 split
 ·rename_i fs cs hu
  obtain ⟨cs', hev, hl⟩ : ∃ cs', ev x = .agg cs' ∧ VL E cs.toList cs'.toList := by
   cases hv' : ev x <;> rw [hv'] at hv <;> cases hv
   exact ⟨_, rfl, ‹_›⟩
  cases hf : fs[k]? with
  | none => trivial
  | some f =>
   simp only []
   cases hp : zRs P f.type cs.toList f.offset with
   | none => trivial
   | some u =>
    obtain ⟨u', hr, hrun⟩ := zPz hl hp
    refine Sound1.pure h (v' := u') ?_ hr
    simp [execOp, ho, hev, Instr.field, run_underlying hu, hf, asAgg, hrun]
 ·trivial
def zGv (P : Program) (t : TypeId) (v : Value) (k : Nat) : ORes :=
 match P.underlying t, v with
 | some (.struct fs), .pointer (some ⟨b, o, none⟩) => (match fs[k]? with
  | some f => (match P.info? f.type with | some i => bif i.size.beq 0 then .bad "fieldAddr: no size" else .val (.pointer (some ⟨b, o + f.offset, none⟩)) [] 0 | none => .bad "fieldAddr: no type")
  | none => .bad "fieldAddr: none")
 | some (.struct fs), .func (.via _ _ _ true) _ ⟨cs⟩ => (match fs[k]? with
  | some f => (match P.info? f.type with | some i => bif i.size.beq 0 then .bad "fieldAddr: no size" else .val (refV (cs.drop f.offset)) [] 0 | none => .bad "fieldAddr: no type")
  | none => .bad "fieldAddr: none")
 | _, _ => .bad "fieldAddr"
theorem zAi (b o k : Nat) : (⟨b, o, none⟩ : Addr).add k = ⟨b, o + k, none⟩ := by unfold Addr.add; split <;> simp_all
theorem zLj {P : Program} {E : Env} {G : Gh} {n : Nat} {w : World} (h : HR P E G w) (t : TypeId) (x : Operand) (k : Nat) {ev : Operand → Value} {v : Value} {o : Oper} (ho : o.op = .fieldAddr t x k) (hv : VR E v (ev x)) :
  Sound1 P E G n w ((execOp ev o).run P w) (zGv P t v k) := by
 unfold zGv
 split
 ·rename_i fs b off hu
  obtain ⟨hev, hb⟩ : ev x = .pointer (some ⟨E.ρ b, E.sh b + off, none⟩) ∧ E.dom b := by
   cases hv' : ev x <;> rw [hv'] at hv <;> cases hv
   exact ⟨rfl, ‹_›⟩
  cases hf : fs[k]? with
  | none => trivial
  | some f =>
   simp only []
   cases hi : P.info? f.type with
   | none => trivial
   | some i =>
    simp only []
    cases h0 : i.size.beq 0 with
    | true => trivial
    | false =>
     have h0' : i.size ≠ 0 := fun e => by rw [e] at h0; simp at h0
     refine Sound1.pure h (v' := .pointer (some ⟨E.ρ b, E.sh b + (off + f.offset), none⟩)) ?_ (.ptr b _ hb)
     simp [execOp, ho, hev, Instr.fieldAt, run_underlying hu, hf, Instr.sureAddr, fieldPlace, sizeOf, typeInfo, hi, h0', zAi, Nat.add_assoc]
 ·rename_i fs z p m g cs hu
  obtain ⟨b, off, y, hev, h1, h2⟩ := hv.ref_inv
  simp only [] at h1 h2
  cases hf : fs[k]? with
  | none => trivial
  | some f =>
   simp only []
   cases hi : P.info? f.type with
   | none => trivial
   | some i =>
    simp only []
    cases h0 : i.size.beq 0 with
    | true => trivial
    | false =>
     have h0' : i.size ≠ 0 := fun e => by rw [e] at h0; simp at h0
     refine Sound1.pure h (v' := .pointer (some ⟨b, off + f.offset, none⟩)) ?_ (VR.ref_drop h1 h2)
     simp [execOp, ho, hev, Instr.fieldAt, run_underlying hu, hf, Instr.sureAddr, fieldPlace, sizeOf, typeInfo, hi, h0', zAi]
 ·trivial
def asI (v : Value) : Option Int := match v with | .int _ i => some i | _ => none
def zGt (P : Program) : ORes := .pan (.chan (some P.rt.boundsError))
theorem zGu {P : Program} {E : Env} {G : Gh} {n : Nat} {w : World} {r : Result Next} {k : IntKind} {x y : Int} (hr : r = ((boundsPanic k x y .index : Sem Value).run P w).andThen fun v w' => .ok (.value v) w') : Sound1 P E G n w r (zGt P) := by
 have key : ∃ s w', (boundsPanic k x y .index : Sem Value).run P w = .halt (.panic (boundsValue P (IntKind.i64.wrap x) y s 0)) w' ∧ (w' = w ∨ w' = w.drew) := by
  unfold boundsPanic boundsValue
  split
  ·refine ⟨w.tape w.drawn (.extern "runtime.boundsError.signed" 2) % 2 == 1, w.drew, ?_, .inr rfl⟩
   simp [runtimePanic, goPanic, Question.forced]
   exact ⟨rfl, rfl⟩
  ·refine ⟨k != .u64, w, ?_, .inl rfl⟩
   simp [runtimePanic, goPanic]
   rfl
 obtain ⟨s, w', h1, h2⟩ := key
 refine ⟨boundsValue P (IntKind.i64.wrap x) y s 0, w', by rw [hr, h1]; rfl, .ub _ _, h2⟩
def aIndex (P : Program) (t : TypeId) (v i : Value) : ORes :=
 match i with
 | .int _ i =>
  match P.underlying t, v with
  | some (.array n e), .agg cs => (match P.info? e with
   | some inf => bif decide (0 ≤ i) && decide (i < n) then (match zRs P e cs.toList (i.toNat * inf.size) with | some u => .val u [] 0 | none => .bad "index: part") else .bad "index: out of range"
   | none => .bad "index: no type")
  | _, _ => .bad "index"
 | _ => .bad "index: no number"
theorem aIndex_ok {P : Program} {E : Env} {G : Gh} {n : Nat} {w : World} (h : HR P E G w) (t : TypeId) (x y : Operand) {ev : Operand → Value} {v i : Value} {o : Oper} (ho : o.op = .index t x y) (hv : VR E v (ev x)) (hi' : VR E i (ev y)) :
  Sound1 P E G n w ((execOp ev o).run P w) (aIndex P t v i) := by
 unfold aIndex
 split
 ·rename_i ik i
  have hey : ev y = .int ik i := by
   cases hv' : ev y <;> rw [hv'] at hi' <;> cases hi'
   rfl
  split
  ·rename_i n e cs hu
   cases hi : P.info? e with
   | none => trivial
   | some inf =>
    simp only []
    cases hb : (decide (0 ≤ i) && decide (i < n)) with
    | false => trivial
    | true =>
     simp only [Bool.and_eq_true, decide_eq_true_eq] at hb
     obtain ⟨cs', hev, hl⟩ : ∃ cs', ev x = .agg cs' ∧ VL E cs.toList cs'.toList := by
      cases hv' : ev x <;> rw [hv'] at hv <;> cases hv
      exact ⟨_, rfl, ‹_›⟩
     simp only [cond_true]
     cases hp : zRs P e cs.toList (i.toNat * inf.size) with
     | none => trivial
     | some u =>
      obtain ⟨u', hr, hrun⟩ := zPz hl hp
      refine Sound1.pure h (v' := u') ?_ hr
      simp [execOp, ho, hev, hey, Instr.index, asIntOf, run_underlying hu, hb.1, hb.2, sizeOf, typeInfo, hi, hrun]
  ·trivial
 ·trivial
def zBy (P : Program) (t : TypeId) (v i : Value) : ORes :=
 match i with
 | .int _ i =>
  match P.underlying t, v with
  | some (.slice e), .slice (some ⟨b, o, none⟩) n _ => (match P.info? e with
   | some inf => bif decide (0 ≤ i) && decide (i < n) then .val (.pointer (some ⟨b, o + i.toNat * inf.size, none⟩)) [] 0 else zGt P
   | none => .bad "indexAddr: no type")
  | some (.slice _), .slice none _ _ => zGt P
  | some (.array n e), .pointer (some ⟨b, o, none⟩) => (match P.info? e with
   | some inf => bif decide (0 ≤ i) && decide (i < n) then .val (.pointer (some ⟨b, o + i.toNat * inf.size, none⟩)) [] 0 else .bad "indexAddr: out of range"
   | none => .bad "indexAddr: no type")
  | some (.slice e), .func (.via z _ n false) _ ⟨cs⟩ => (match P.info? e with
   | some inf => bif z.beq inf.size then (bif decide (0 ≤ i) && decide (i < n) then .val (refV ((cs.drop (i.toNat * z)).take z)) [] 0 else zGt P) else .bad "indexAddr: size"
   | none => .bad "indexAddr: no type")
  | _, _ => .bad "indexAddr"
 | _ => .bad "indexAddr: no number"
theorem zLk {P : Program} {E : Env} {G : Gh} {n : Nat} {w : World} (h : HR P E G w) (t : TypeId) (x y : Operand) {ev : Operand → Value} {v i : Value} {o : Oper} (ho : o.op = .indexAddr t x y) (hv : VR E v (ev x)) (hi' : VR E i (ev y)) :
  Sound1 P E G n w ((execOp ev o).run P w) (zBy P t v i) := by
 unfold zBy
 split
 ·rename_i ik i
  have hey : ev y = .int ik i := by
   cases hv' : ev y <;> rw [hv'] at hi' <;> cases hi'
   rfl
  split
  ·rename_i e b off n cap hu
   cases hi : P.info? e with
   | none => trivial
   | some inf =>
    simp only []
    cases hb : (decide (0 ≤ i) && decide (i < n)) with
    | false =>
     have hb : ¬ (0 ≤ i ∧ i < n) := by simpa using hb
     refine zGu (k := ik) (x := i) (y := n) ?_
     cases hv' : ev x <;> rw [hv'] at hv <;> cases hv <;> simp [execOp, ho, hv', hey, Instr.indexAt, asIntOf, run_underlying hu, hb]
     rename_i a' _ _ _ _
     cases a' <;> simp [show ¬ (0 ≤ i ∧ i < 0) by omega]
    | true =>
     simp only [Bool.and_eq_true, decide_eq_true_eq] at hb
     have hsl : ∃ cap', E.dom b ∧ ev x = .slice (some ⟨E.ρ b, E.sh b + off, none⟩) n cap' := by
      cases hv' : ev x <;> rw [hv'] at hv <;> cases hv
      ·exact ⟨_, ‹_›, rfl⟩
      ·exact ⟨_, ‹_›, rfl⟩
      ·exfalso; have := hb.2; omega
     obtain ⟨cap', hbn, hev⟩ := hsl
     refine Sound1.pure h (v' := .pointer (some ⟨E.ρ b, E.sh b + (off + i.toNat * inf.size), none⟩)) ?_ (.ptr b _ hbn)
     simp [execOp, ho, hev, hey, Instr.indexAt, asIntOf, run_underlying hu, hb.1, hb.2, sizeOf, typeInfo, hi, zAi, Nat.add_assoc]
  ·rename_i e n cap hu
   refine zGu (k := ik) (x := i) (y := 0) ?_
   cases hv' : ev x <;> rw [hv'] at hv <;> cases hv <;> simp [execOp, ho, hv', hey, Instr.indexAt, asIntOf, run_underlying hu]
  ·rename_i n e b off hu
   cases hi : P.info? e with
   | none => trivial
   | some inf =>
    simp only []
    cases hb : (decide (0 ≤ i) && decide (i < n)) with
    | false => trivial
    | true =>
     simp only [Bool.and_eq_true, decide_eq_true_eq] at hb
     have hsl : E.dom b ∧ ev x = .pointer (some ⟨E.ρ b, E.sh b + off, none⟩) := by
      cases hv' : ev x <;> rw [hv'] at hv <;> cases hv
      exact ⟨‹_›, rfl⟩
     obtain ⟨hbn, hev⟩ := hsl
     refine Sound1.pure h (v' := .pointer (some ⟨E.ρ b, E.sh b + (off + i.toNat * inf.size), none⟩)) ?_ (.ptr b _ hbn)
     simp [execOp, ho, hev, hey, Instr.indexAt, asIntOf, run_underlying hu, hb.1, hb.2, sizeOf, typeInfo, hi, zAi, Nat.add_assoc, Instr.sureAddr]
  ·rename_i e z p n g cs hu
   obtain ⟨b, off, cap, a', y, hev, hl, hnc, hm, ha, h1, h2⟩ := hv.tree_inv
   simp only [] at hl h1 h2
   cases hi : P.info? e with
   | none => trivial
   | some inf =>
    simp only []
    cases hz : z.beq inf.size with
    | false => trivial
    | true =>
     have hz := Nat.eq_of_beq_eq_true hz
     subst hz
     simp only [cond_true]
     cases hb : (decide (0 ≤ i) && decide (i < n)) with
     | false =>
      have hb : ¬ (0 ≤ i ∧ i < n) := by simpa using hb
      refine zGu (k := ik) (x := i) (y := n) ?_
      have ha0 : a' = none → n = 0 := fun e => by rcases ha with ha | ha; rw [e] at ha; cases ha; exact ha.1
      cases a' with
      | none => have := ha0 rfl; subst this; simp [execOp, ho, hev, hey, Instr.indexAt, asIntOf, run_underlying hu]
      | some a => simp [execOp, ho, hev, hey, Instr.indexAt, asIntOf, run_underlying hu, hb]
     | true =>
      simp only [Bool.and_eq_true, decide_eq_true_eq] at hb
      rcases ha with rfl | ⟨h0, _⟩
      ·refine Sound1.pure h (v' := .pointer (some ⟨b, off + i.toNat * inf.size, none⟩)) ?_ (VR.ref_part h1 h2)
       simp [execOp, ho, hev, hey, Instr.indexAt, asIntOf, run_underlying hu, hb.1, hb.2, sizeOf, typeInfo, hi, zAi]
      ·exfalso; have := hb.2; omega
  ·trivial
 ·trivial
theorem zPy {P : Program} {E : Env} {G : Gh} {n : Nat} {w : World} (h : HR P E G w) (x : Operand) {ev : Operand → Value} {v : Value} {o : Oper} (ho : o.op = .move x ∨ o.op = .assign x) (hv : VR E v (ev x)) :
  Sound1 P E G n w ((execOp ev o).run P w) (.val v [] 0) :=
 Sound1.pure h (v' := ev x) (by rcases ho with ho | ho <;> simp [execOp, ho]) hv
def aPick (c a b : Value) : ORes := match c with | .bool t => .val (bif t then a else b) [] 0 | _ => .bad "pick"
theorem aPick_ok {P : Program} {E : Env} {G : Gh} {n : Nat} {w : World} (h : HR P E G w) (x y z : Operand) {ev : Operand → Value} {c a b : Value} {o : Oper} (ho : o.op = .pick x y z) (hc : VR E c (ev x)) (ha : VR E a (ev y)) (hb : VR E b (ev z)) :
  Sound1 P E G n w ((execOp ev o).run P w) (aPick c a b) := by
 unfold aPick
 split
 ·rename_i t
  have hex : ev x = .bool t := by
   cases hv' : ev x <;> rw [hv'] at hc <;> cases hc
   rfl
  cases t
  ·exact Sound1.pure h (v' := ev z) (by simp [execOp, ho, hex, asBool]) hb
  ·exact Sound1.pure h (v' := ev y) (by simp [execOp, ho, hex, asBool]) ha
 ·trivial
def aNil (v : Value) : ORes :=
 match v with
 | .pointer (some _) => .val v [] 0
 | .func (.func f) as cs => .val (.func (.func f) as cs) [] 0
 | .iface _ _ => .val v [] 0
 | .map _ => .val v [] 0
 | .slice _ _ _ => .val v [] 0
 | _ => .bad "nilCheck"
theorem aNil_ok {P : Program} {E : Env} {G : Gh} {n : Nat} {w : World} (h : HR P E G w) (x : Operand) {ev : Operand → Value} {v : Value} {o : Oper} (ho : o.op = .nilCheck x) (hv : VR E v (ev x)) :
  Sound1 P E G n w ((execOp ev o).run P w) (aNil v) := by
 unfold aNil
 split
 case h_6 => trivial
 all_goals
  refine Sound1.pure h (v' := ev x) ?_ hv
  cases hv' : ev x <;> rw [hv'] at hv <;> cases hv
 all_goals simp [execOp, ho, hv']
def aMkI (P : Program) (t : TypeId) (v : Value) : ORes := match P.underlying t with | some (.interface _) => .bad "makeInterface" | some _ => .val (.iface t v) [] 0 | none => .bad "makeInterface"
theorem aMkI_ok {P : Program} {E : Env} {G : Gh} {n : Nat} {w : World} (h : HR P E G w) (t : TypeId) (x : Operand) {ev : Operand → Value} {v : Value} {o : Oper} (ho : o.op = .makeInterface t x) (hv : VR E v (ev x)) :
  Sound1 P E G n w ((execOp ev o).run P w) (aMkI P t v) := by
 unfold aMkI
 split
 ·trivial
 ·rename_i d hn hu
  refine Sound1.pure h (v' := .iface t (ev x)) ?_ (.iface t _ _ hv)
  cases d <;> first | (simp [execOp, ho, Instr.makeInterface, run_underlying hu]; done) | exact absurd rfl (hn _)
 ·trivial
theorem zIo {E : Env} {ev ev' : Operand → Value} : ∀ {l : List Operand}, (∀ x ∈ l, VR E (ev x) (ev' x)) → VL E (l.map ev) (l.map ev')
 | [], _ => .nil
 | x :: l, h => .cons _ _ _ _ (h x (by simp)) (zIo (fun y hy => h y (by simp [hy])))
def aMkF (fn : Fn) (as cs : List Value) : ORes := bif plainFn fn then .val (.func fn as.toArray cs.toArray) [] 0 else .bad "makeFunc"
theorem aMkF_ok {P : Program} {E : Env} {G : Gh} {n : Nat} {w : World} (h : HR P E G w) (fn : Fn) (as cs : Array Operand) {ev ev' : Operand → Value} {o : Oper} (ho : o.op = .makeFunc fn as cs) (hv : ∀ x ∈ o.op.operands, VR E (ev x) (ev' x)) :
  Sound1 P E G n w ((execOp ev' o).run P w) (aMkF fn (as.toList.map ev) (cs.toList.map ev)) := by
 unfold aMkF
 cases hf : plainFn fn with
 | false => trivial
 | true =>
  have h1 : ∀ x ∈ as.toList, VR E (ev x) (ev' x) := fun x hx => hv x (by rw [ho]; simp [Op.operands]; exact .inl (by simpa using hx))
  have h2 : ∀ x ∈ cs.toList, VR E (ev x) (ev' x) := fun x hx => hv x (by rw [ho]; simp [Op.operands]; exact .inr (by simpa using hx))
  refine Sound1.pure h (v' := .func fn (as.map ev') (cs.map ev')) (by simp [execOp, ho, Instr.makeFunc]) (.func _ _ _ _ _ hf ?_ ?_)
  ·simpa using zIo h1
  ·simpa using zIo h2
end Go.Proofs.Ytpdeidlkeplegaa
