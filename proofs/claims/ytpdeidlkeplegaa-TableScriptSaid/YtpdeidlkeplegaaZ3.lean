/- DERIVED. Texts put together: M3. -/
import Derived.Laws.Cells
import Derived.Laws.Tables
import Derived.Test.YtpdeidlkeplegaaZ2
set_option maxRecDepth 1000000
set_option maxHeartbeats 32000000
namespace Go.Proofs.Ytpdeidlkeplegaa
open Go.RowKit
inductive ORes where
 | val (v : Value) (us : List (Nat × Option AObj)) (k : Nat)
 | pan (v : Value)
 | bad (why : String)
def upd : List (Nat × Option AObj) → Gh → Gh
 | [], G => G
 | (i, x) :: us, G => upd us (gset G i x)
def nxIs (E : Env) (v : Value) (nx : Next) : Prop := (∃ v', nx = .value v' ∧ VR E v v') ∨ (nx = .skip ∧ v = undef)
def Sound1 (P : Program) (E : Env) (G : Gh) (n : Nat) (w : World) (r : Result Next) : ORes → Prop
 | .val v us k => (0 < k → ¬ E.dom n) → ∃ nx w' E', r = .ok nx w' ∧ nxIs E' v nx ∧ (∀ b, E'.dom b ↔ E.dom b ∨ (n ≤ b ∧ b < n + k)) ∧ HR P E' (upd us G) w' ∧ Stp E E' (us.map (·.1)) w w' ∧ (∀ u ∈ us, E.dom u.1 → G u.1 ≠ none)
 | .pan v => ∃ v' w', r = .halt (.panic v') w' ∧ VR E v v' ∧ (w' = w ∨ w' = w.drew)
 | .bad _ => True
theorem dom0 {E : Env} {n : Nat} (b : Nat) : E.dom b ↔ E.dom b ∨ (n ≤ b ∧ b < n + 0) := ⟨.inl, fun h => h.resolve_right (by omega)⟩
theorem dom1 {E : Env} {n : Nat} {x y z : Nat} (b : Nat) : (E.push n x y z).dom b ↔ E.dom b ∨ (n ≤ b ∧ b < n + 1) := by
 show (b = n ∨ E.dom b) ↔ _
 constructor
 ·rintro (h | h)
  ·exact .inr (by omega)
  ·exact .inl h
 ·rintro (h | h)
  ·exact .inr h
  ·exact .inl (by omega)
theorem Sound1.pure {P : Program} {E : Env} {G : Gh} {n : Nat} {w : World} {r : Result Next} {v v' : Value} (h : HR P E G w) (hr : r = .ok (.value v') w) (hv : VR E v v') : Sound1 P E G n w r (.val v [] 0) :=
 fun _ => ⟨_, w, E, hr, .inl ⟨v', rfl, hv⟩, dom0, h, .refl E w, fun u hu => by cases hu⟩
theorem Sound1.new {P : Program} {E : Env} {G : Gh} {n : Nat} {w : World} {r : Result Next} {v v' : Value} (h : HR P E G w) (ob : Obj) (o : AObj) (t s : Nat) (hr : r = .ok (.value v') (w.alloc ob))
  (ho : ¬ E.dom n → OR P (E.push n w.heap.size t s) (w.alloc ob) n o) (hv : VR (E.push n w.heap.size t s) v v') : Sound1 P E G n w r (.val v [(n, some o)] 1) := by
 refine fun hk => ?_
 have hn := hk (by omega)
 obtain ⟨h1, h2⟩ := h.new hn ob o t s (ho hn)
 exact ⟨_, _, _, hr, .inl ⟨v', rfl, hv⟩, dom1, h1, h2.sub (fun x hx => by cases hx), fun u hu hl => by simp at hu; subst hu; exact absurd hl hn⟩
theorem zIh {P : Program} {E : Env} {n : Nat} {w : World} {e : TypeId} {sz : Nat} {arr : Array Value} {c : List Value} (hn : ¬ E.dom n) (hi : (P.info? e).map (·.size) = some sz) (hv : VL E c arr.toList) :
  OR P (E.push n w.heap.size arr.size sz) (w.alloc (.cells arr e)) n (.cells c e) := by
 have hl := hv.length
 refine ⟨arr, (0, 0), ?_, .inl rfl, ?_, ?_, ?_, ?_, Env.push_sh _ _ _ _ _, restOK.nil (List.drop_eq_nil_of_le (by omega))⟩
 ·rw [Env.push_ρ]; exact heap_alloc_new w _
 ·rw [Env.push_tot]
 ·rw [Env.push_sz]; exact hi
 ·simp at hl; omega
 ·simp at hl
  rw [List.take_of_length_le (by simp; omega)]
  exact hv.ext (Env.push_ext hn _ _ _)
theorem zPg {E : Env} {n b t s : Nat} : VR (E.push n b t s) (.pointer (some ⟨n, 0, none⟩)) (.pointer (some ⟨b, 0, none⟩)) := by
 have := VR.ptr (E := E.push n b t s) n 0 (E.push_dom n b t s)
 rwa [Env.push_ρ, Env.push_sh] at this
theorem zNy {E : Env} {m b t s n c : Nat} (hc : c ≠ U) : VR (E.push m b t s) (.slice (some ⟨m, 0, none⟩) n c) (.slice (some ⟨b, 0, none⟩) n c) := by
 have := VR.sl (E := E.push m b t s) m 0 n c (E.push_dom m b t s) hc
 rwa [Env.push_ρ, Env.push_sh] at this
theorem zOm {v : Value} (h : anyOk v = true) : v.cells = #[v] := by cases v <;> first | rfl | cases h
theorem anyOk_one {v : Value} (h : anyOk v = true) : v.oneCell' = true := by cases v <;> first | rfl | cases h
theorem VR.cells {E : Env} {v v' : Value} (h : VR E v v') : VL E v.cells.toList v'.cells.toList := by
 cases h with
 | any _ h => rw [zOm h]; exact .cons _ _ _ _ (.any _ h) .nil
 | deep t p n q f c v' hd => rcases hd.inv with ⟨_, _, _, rfl⟩ | ⟨_, rfl⟩ <;> exact .cons _ _ _ _ (.deep t p n q f c _ hd) .nil
 | _ => _
 all_goals first
  | (rename_i h; exact h)
  | skip
 all_goals (simp only [Value.cells]; refine .cons _ _ _ _ ?_ .nil)
 all_goals first
  | exact .bool _ | exact .int _ _ | exact .float _ _ | exact .string _ | exact .pnil | exact .snil _ _ | exact .mnil | exact .fnil | exact .inil
  | (constructor <;> assumption)
def plainL (l : List Value) : Bool := l.all (plainV 8)
theorem zBq {E : Env} {l : List Value} (h : plainL l = true) : VL E l l := by
 induction l with
 | nil => exact .nil
 | cons v l ih => simp only [plainL, List.all_cons, Bool.and_eq_true] at h; exact .cons _ _ _ _ (zAg 8 h.1) (ih h.2)
def zBo (n : Nat) (c : List Value) (e : TypeId) (v : Value) : ORes := .val v [(n, some (.cells c e))] 1
def aAlloc (P : Program) (e : TypeId) (n : Nat) : ORes :=
 match P.info? e with
 | none => .bad "alloc: no type"
 | some i => match i.zero with
  | none => .bad "alloc: no zero"
  | some z => bif plainL z.cells.toList then zBo n z.cells.toList e (.pointer (some ⟨n, 0, none⟩)) else .bad "alloc: zero"
theorem aAlloc_ok {P : Program} {E : Env} {G : Gh} {n : Nat} {w : World} (h : HR P E G w) (e : TypeId) {ev : Operand → Value} {o : Oper} (ho : o.op = .alloc e) :
  Sound1 P E G n w ((execOp ev o).run P w) (aAlloc P e n) := by
 unfold aAlloc
 cases hi : P.info? e with
 | none => trivial
 | some i =>
  cases hz : i.zero with
  | none => simp only [hz]; trivial
  | some z =>
   simp only [hz]
   cases hp : plainL z.cells.toList with
   | false => trivial
   | true =>
    refine Sound1.new h (.cells z.cells e) _ z.cells.size i.size ?_ (fun hn => zIh hn (by simp [hi]) (zBq hp)) zPg
    simp [execOp, ho, Instr.alloc, zeroValue, typeInfo, hi, hz, newVar, newRow]
def aBox (P : Program) (e : TypeId) (v : Value) (n : Nat) : ORes :=
 match P.info? e with
 | none => .bad "box: no type"
 | some _ => zBo n v.cells.toList e (.pointer (some ⟨n, 0, none⟩))
theorem aBox_ok {P : Program} {E : Env} {G : Gh} {n : Nat} {w : World} (h : HR P E G w) (e : TypeId) (x : Operand) {ev : Operand → Value} {v : Value} {o : Oper} (ho : o.op = .box e x) (hv : VR E v (ev x)) :
  Sound1 P E G n w ((execOp ev o).run P w) (aBox P e v n) := by
 unfold aBox
 cases hi : P.info? e with
 | none => trivial
 | some i =>
  refine Sound1.new h (.cells (ev x).cells e) _ (ev x).cells.size i.size ?_ (fun hn => zIh hn (by simp [hi]) hv.cells) zPg
  simp [execOp, ho, Instr.box, newVar, newRow]
def aggT (P : Program) (t : TypeId) : Option Bool :=
 match P.underlying t with
 | some (.struct _) | some (.array _ _) => some true
 | some _ => some false
 | none => none
theorem zBn {P : Program} {w : World} {t : TypeId} {b : Bool} (h : aggT P t = some b) : (isAgg t).run P w = .ok b w := by
 unfold aggT at h
 cases hu : P.underlying t with
 | none => simp [hu] at h
 | some d =>
  rw [hu] at h
  simp only [isAgg, Sem.run_bind, run_underlying hu, Result.andThen_ok]
  cases d <;> simp at h <;> subst h <;> rfl
theorem OR.look {P : Program} {E : Env} {w : World} {id : Nat} {o : AObj} {c : List Value} (h : OR P E w id o) (hl : o.look = some c) :
  ∃ l : List Value, l.length = c.length ∧ VL E c l ∧ ∀ j v, l[j]? = some v → w.cell? ⟨E.ρ id, E.sh id + j, none⟩ = some v := by
 cases o with
 | cells c' e =>
  cases hl
  obtain ⟨arr, fr, h1, h2, h3, h4, h5, h6, h7, _⟩ := h
  refine ⟨arr.toList.take c.length, by simp; omega, h6, fun j v hj => ?_⟩
  have hlt : j < c.length := by have := (List.getElem?_eq_some_iff.1 hj).1; simp at this; omega
  rw [List.getElem?_take_of_lt hlt] at hj
  rw [h7, Nat.zero_add]
  simp [World.cell?, h1]; simpa using hj
 | win c' z => cases hl; exact h.2
 | _ => cases hl
theorem OR.look_at {P : Program} {E : Env} {w : World} {id : Nat} {o : AObj} {c : List Value} (h : OR P E w id o) (hl : o.look = some c) (j : Nat) (v : Value) (hj : c[j]? = some v) :
  ∃ v', w.cell? ⟨E.ρ id, E.sh id + j, none⟩ = some v' ∧ VR E v v' := by
 obtain ⟨l, h1, h5, h6⟩ := h.look hl
 obtain ⟨v', hv, hr⟩ := h5.at j v hj
 exact ⟨v', h6 j v' hv, hr⟩
theorem OR.look_sub {P : Program} {E : Env} {w : World} {id : Nat} {o : AObj} {c : List Value} (h : OR P E w id o) (hl : o.look = some c) {off n : Nat} (hb : off + n ≤ c.length) :
  ∃ l : List Value, l.length = n ∧ VL E ((c.drop off).take n) l ∧ ∀ j v, l[j]? = some v → w.cell? ⟨E.ρ id, E.sh id + off + j, none⟩ = some v := by
 obtain ⟨l, h1, h5, h6⟩ := h.look hl
 refine ⟨(l.drop off).take n, by simp; omega, (h5.drop off).take n, fun j v hj => ?_⟩
 have hlt : j < n := by have := (List.getElem?_eq_some_iff.1 hj).1; simp at this; omega
 rw [List.getElem?_take_of_lt hlt, List.getElem?_drop] at hj
 rw [Nat.add_assoc]; exact h6 _ v hj
theorem zAt {P : Program} {E : Env} {w : World} {id : Nat} {c : List Value} {e : TypeId} (h : OR P E w id (.cells c e)) (j : Nat) (v : Value) (hj : c[j]? = some v) :
  ∃ v', w.cell? ⟨E.ρ id, j, none⟩ = some v' ∧ w.frozen? ⟨E.ρ id, j, none⟩ = false ∧ VR E v v' := by
 obtain ⟨arr, fr, h1, h2, h3, h4, h5, h6, _⟩ := h
 obtain ⟨v', hv, hr⟩ := h6.at j v hj
 have hl : j < c.length := (List.getElem?_eq_some_iff.1 hj).1
 rw [List.getElem?_take_of_lt hl] at hv
 refine ⟨v', ?_, ?_, hr⟩
 ·simp [World.cell?, h1]; simpa using hv
 ·simp only [World.frozen?, h1]
  obtain ⟨lo, hi⟩ := fr
  rcases h2 with h2 | ⟨h2, _⟩
  ·cases h2; simp
  ·simp at h2 ⊢; omega
theorem zDw {P : Program} {w : World} {a : Addr} {v : Value} (h : w.cell? a = some v) : (load a).run P w = .ok v w := by simp [h]
def zKc (P : Program) (t : TypeId) (v : Value) (G : Gh) : ORes :=
 match v with
 | .pointer (some ⟨b, o, none⟩) =>
  match (G b).bind AObj.look with
  | some c =>
   match aggT P t with
   | none => .bad "load: no type"
   | some false => match c[o]? with
    | some u => .val u [] 0
    | none => .bad "load: no cell"
   | some true => match P.info? t with
    | none => .bad "load: no type"
    | some i => bif (o + i.size).ble c.length then .val (.agg ((c.drop o).take i.size).toArray) [] 0 else .bad "load: no cells"
  | _ => .bad "load: no block"
 | .func (.via _ _ _ true) _ ⟨cs⟩ =>
  match aggT P t with
  | none => .bad "load: no type"
  | some false => match cs with
   | u :: _ => .val u [] 0
   | [] => .bad "load: no cell"
  | some true => match P.info? t with
   | none => .bad "load: no type"
   | some i => bif i.size.ble cs.length then .val (.agg (cs.take i.size).toArray) [] 0 else .bad "load: no cells"
 | _ => .bad "load: no address"
theorem aLoad_ok {P : Program} {E : Env} {G : Gh} {n : Nat} {w : World} (h : HR P E G w) (t : TypeId) (x : Operand) {ev : Operand → Value} {v : Value} {o : Oper} (ho : o.op = .load t x) (hv : VR E v (ev x)) :
  Sound1 P E G n w ((execOp ev o).run P w) (zKc P t v G) := by
 unfold zKc
 split
 ·rename_i b off
  cases hg0 : (G b).bind AObj.look with
  | none => trivial
  | some c =>
   obtain ⟨ob, hg, hlk⟩ := Option.bind_eq_some_iff.1 hg0
   simp only []
   have hor := h.obj b _ hg
   obtain ⟨a', hev, rfl⟩ : ∃ a', ev x = .pointer (some a') ∧ a' = ⟨E.ρ b, E.sh b + off, none⟩ := by
    cases hv' : ev x <;> rw [hv'] at hv <;> cases hv
    exact ⟨_, rfl, rfl⟩
   cases ha : aggT P t with
   | none => trivial
   | some ag =>
    cases ag with
    | false =>
     simp only []
     cases hc : c[off]? with
     | none => trivial
     | some u =>
      obtain ⟨v', h1, h3⟩ := hor.look_at hlk off u hc
      refine Sound1.pure h (v' := v') ?_ h3
      simp [execOp, ho, hev, Instr.loadAt, Instr.sureAddr, loadVar, zBn ha, zDw h1, -run_load]
    | true =>
     simp only []
     cases hi : P.info? t with
     | none => trivial
     | some i =>
      simp only []
      cases hb : (off + i.size).ble c.length with
      | false => trivial
      | true =>
       have hb' : off + i.size ≤ c.length := Nat.le_of_ble_eq_true hb
       obtain ⟨l, hlen, hsub, hcl⟩ := hor.look_sub hlk hb'
       refine Sound1.pure h (v' := .agg l.toArray) ?_ (.agg _ _ (by simpa using hsub))
       have hl := run_loadCells_list (P := P) w ⟨E.ρ b, E.sh b + off, none⟩ l (fun j u hj => by
        have : (⟨E.ρ b, E.sh b + off, none⟩ : Addr).add j = ⟨E.ρ b, E.sh b + off + j, none⟩ := by unfold Addr.add; split <;> simp_all
        rw [this]; exact hcl j u hj)
       rw [hlen] at hl
       simp [execOp, ho, hev, Instr.loadAt, Instr.sureAddr, loadVar, zBn ha, sizeOf, typeInfo, hi, hl]
 ·rename_i z p m f cs
  obtain ⟨b, off, y, hev, h1, h2⟩ := hv.ref_inv
  simp only [] at h1 h2
  cases ha : aggT P t with
  | none => trivial
  | some ag =>
   cases ag with
   | false =>
    cases cs with
    | nil => trivial
    | cons u us =>
     have hc := h.fzc (h1 0 (by simp))
     rw [Nat.add_zero] at hc
     refine Sound1.pure h (v' := y 0) ?_ (h2 0 u rfl).vr
     simp [execOp, ho, hev, Instr.loadAt, Instr.sureAddr, loadVar, zBn ha, zDw hc, -run_load]
   | true =>
    simp only []
    cases hi : P.info? t with
    | none => trivial
    | some i =>
     simp only []
     cases hb : i.size.ble cs.length with
     | false => trivial
     | true =>
      have hb' : i.size ≤ cs.length := Nat.le_of_ble_eq_true hb
      obtain ⟨l, hlen, hsub, hcl⟩ := zOr (m := 0) (k := i.size) h1 h2 (by omega)
      rw [List.drop_zero] at hsub
      refine Sound1.pure h (v' := .agg l.toArray) ?_ (.agg _ _ (by simpa using hsub))
      have hl := run_loadCells_list (P := P) w ⟨b, off, none⟩ l (fun j u hj => by
       have : (⟨b, off, none⟩ : Addr).add j = ⟨b, off + j, none⟩ := by unfold Addr.add; split <;> simp_all
       rw [this]
       have := h.fzc (hcl j u hj)
       rwa [Nat.add_zero] at this)
      rw [hlen] at hl
      simp [execOp, ho, hev, Instr.loadAt, Instr.sureAddr, loadVar, zBn ha, sizeOf, typeInfo, hi, hl]
 ·trivial
def oneL (l : List Value) : Bool := l.all (·.oneCell')
theorem VR.one {E : Env} {v v' : Value} (h : VR E v v') : v'.oneCell' = v.oneCell' := by
 cases h with
 | deep t p n q f c v' hd => rcases hd.inv with ⟨_, _, _, rfl⟩ | ⟨_, rfl⟩ <;> rfl
 | _ => first | rfl | exact anyOk_one ‹_›
theorem VL.one {E : Env} {l l' : List Value} (h : VL E l l') : oneL l' = oneL l := by
 induction l generalizing l' with
 | nil => cases h; rfl
 | cons v l ih => cases h with | cons _ v' _ l' hv ht => simp only [oneL, List.all_cons, hv.one] at *; rw [ih ht]
theorem zDx (b : Nat) : ∀ (vs : List Value) (o : Nat) (w : World) (arr : Array Value) (e : TypeId) (fr : Nat × Nat), w.heap[b]? = some (.cells arr e fr) → o + vs.length ≤ arr.size →
  (w.setCells b o vs).heap[b]? = some (.cells (arr.toList.take o ++ vs ++ arr.toList.drop (o + vs.length)).toArray e fr)
 | [], o, w, arr, e, fr, h, hl => by simp [World.setCells, h]
 | v :: r, o, w, arr, e, fr, h, hl => by
  simp at hl
  have hb : (w.setCell ⟨b, o, none⟩ v).heap[b]? = some (.cells (arr.setIfInBounds o v) e fr) := by
   simp [World.setCell, h, Array.getElem?_modify]
  rw [World.setCells, zDx b r (o + 1) _ _ e fr hb (by simp; omega)]
  congr 2
  simp only [Array.toList_setIfInBounds, List.length_cons]
  congr 1
  have e1 : (arr.toList.set o v).take (o + 1) = arr.toList.take o ++ [v] := by
   rw [List.take_set, List.take_succ_eq_append_getElem (by simp; omega), List.set_append_right _ _ (by simp; omega)]
   simp [Nat.min_eq_left (show o ≤ arr.size by omega)]
  have e2 : (arr.toList.set o v).drop (o + 1 + r.length) = arr.toList.drop (o + (r.length + 1)) := by
   rw [List.drop_set_of_lt (by omega)]; congr 1; omega
  rw [e1, e2]; simp
theorem zAu (b : Nat) : ∀ (vs : List Value) (o : Nat) (w : World) (k : Nat), k ≠ b → (w.setCells b o vs).heap[k]? = w.heap[k]?
 | [], _, _, _, _ => rfl
 | v :: r, o, w, k, h => by
  rw [World.setCells, zAu b r (o + 1) _ k h]
  exact Below.heap_setCell _ _ _ _ (fun e => h e)
theorem zBa (b : Nat) : ∀ (vs : List Value) (o : Nat) (w : World), (w.setCells b o vs).os = w.os ∧ (w.setCells b o vs).tape = w.tape ∧ (w.setCells b o vs).output = w.output ∧ (w.setCells b o vs).heap.size = w.heap.size
 | [], _, _ => ⟨rfl, rfl, rfl, rfl⟩
 | v :: r, o, w => by
  have := zBa b r (o + 1) (w.setCell ⟨b, o, none⟩ v)
  rw [World.setCells]
  exact ⟨this.1, this.2.1, this.2.2.1, this.2.2.2.trans (by simp [World.setCell])⟩
theorem OR.sh0 {P : Program} {E : Env} {w : World} {id : Nat} {c : List Value} {e : TypeId} (h : OR P E w id (.cells c e)) : E.sh id = 0 := by
 obtain ⟨arr, fr, h1, h2, h3, h4, h5, h6, h7, _⟩ := h; exact h7
theorem zGj {P : Program} {E : Env} {w : World} {id : Nat} {c : List Value} {e : TypeId} (h : OR P E w id (.cells c e)) {o : Nat} {vs vs' : List Value} (hv : VL E vs vs') (ho : o + vs.length ≤ c.length) :
  OR P E (w.setCells (E.ρ id) o vs') id (.cells (c.take o ++ vs ++ c.drop (o + vs.length)) e) := by
 obtain ⟨arr, fr, h1, h2, h3, h4, h5, h6, h7⟩ := h
 have hl := hv.length
 refine ⟨_, fr, zDx _ vs' o w arr e fr h1 (by omega), ?_, ?_, h4, ?_, ?_, h7.1, ?_⟩
 ·refine h2.imp (fun x => x) (fun x => ⟨?_, x.2⟩); have := x.1; simp; omega
 ·simp; omega
 ·simp; omega
 ·have e1 : (c.take o ++ vs ++ c.drop (o + vs.length)).length = c.length := by simp; omega
  rw [e1]
  simp only [List.take_append, List.length_append, List.length_take, Array.length_toList]
  rw [List.take_take, List.take_of_length_le (l := vs') (by omega), Nat.min_eq_right (show o ≤ c.length by omega), Nat.min_eq_left (show o ≤ arr.size by omega)]
  refine VL.append (VL.append ?_ hv) ?_
  ·have := h6.take o
   rwa [List.take_take, Nat.min_eq_left (by omega)] at this
  ·have := h6.drop (o + vs.length)
   rw [List.drop_take] at this
   rwa [← hl]
 ·have e1 : (c.take o ++ vs ++ c.drop (o + vs.length)).length = c.length := by simp; omega
  rw [e1]
  have e2 : (arr.toList.take o ++ vs' ++ arr.toList.drop (o + vs'.length)).drop c.length = arr.toList.drop c.length := by
   rw [List.drop_append, List.drop_eq_nil_of_le (by simp; omega), List.nil_append, List.drop_drop]
   congr 1; simp; omega
  show restOK P e ((arr.toList.take o ++ vs' ++ arr.toList.drop (o + vs'.length)).drop c.length)
  rw [e2]; exact h7.2
def zQa (P : Program) (t : TypeId) (v x : Value) (G : Gh) : ORes :=
 match v with
 | .pointer (some ⟨b, o, none⟩) =>
  match G b with
  | some (.cells c e) =>
   match P.info? t with
   | none => .bad "store: no type"
   | some i => bif x.cells.size.beq i.size && (o + i.size).ble c.length && oneL x.cells.toList then
     .val undef [(b, some (.cells (c.take o ++ x.cells.toList ++ c.drop (o + x.cells.toList.length)) e))] 0 else .bad "store: no cells"
  | _ => .bad "store: no block"
 | _ => .bad "store: no address"
theorem zHj {P : Program} {E : Env} {w : World} {b off : Nat} {c : List Value} {e t : TypeId} {i : TypeInfo} (hor : OR P E w b (.cells c e)) (hi : P.info? t = some i) {x : Value} (hs : x.cells.size = i.size) (h1 : oneL x.cells.toList = true) (hl : off + i.size ≤ c.length) :
  (Instr.storeAt t (.pointer (some ⟨E.ρ b, off, none⟩)) x).run P w = .ok () (w.setCells (E.ρ b) off x.cells.toList) := by
 have hcell : ∀ j, j < x.cells.toList.length → (w.cell? ⟨E.ρ b, off + 0 + j, none⟩).isSome = true ∧ w.frozen? ⟨E.ρ b, off + 0 + j, none⟩ = false := by
  intro j hj
  simp at hj
  obtain ⟨v', h1, h2, _⟩ := zAt hor (off + 0 + j) _ (List.getElem?_eq_getElem (by omega))
  exact ⟨by rw [h1]; rfl, h2⟩
 have hr := run_storeCells_cells (P := P) (E.ρ b) off x.cells.toList 0 w (fun j hj => (hcell j hj).1) (fun j hj => (hcell j hj).2) (fun v hv => List.all_eq_true.1 h1 v hv)
 simp only [Nat.add_zero] at hr
 simp [Instr.storeAt, Instr.sureAddr, storeVar, sizeOf, typeInfo, hi, hs, hr]
theorem aStore_ok {P : Program} {E : Env} {G : Gh} {n : Nat} {w : World} (h : HR P E G w) (t : TypeId) (x y : Operand) {ev : Operand → Value} {v u : Value} {o : Oper} (ho : o.op = .store t x y) (hv : VR E v (ev x)) (hu : VR E u (ev y)) :
  Sound1 P E G n w ((execOp ev o).run P w) (zQa P t v u G) := by
 unfold zQa
 split
 ·rename_i b off
  cases hg : G b with
  | none => trivial
  | some ob =>
   cases ob with
   | cells c e =>
    simp only []
    have hor := h.obj b _ hg
    obtain ⟨a', hev, rfl⟩ : ∃ a', ev x = .pointer (some a') ∧ a' = ⟨E.ρ b, off, none⟩ := by
     cases hv' : ev x <;> rw [hv'] at hv <;> cases hv
     exact ⟨_, rfl, by rw [hor.sh0, Nat.zero_add]⟩
    cases hi : P.info? t with
    | none => trivial
    | some i =>
     simp only []
     cases hb : (u.cells.size.beq i.size && (off + i.size).ble c.length && oneL u.cells.toList) with
     | false => trivial
     | true =>
      simp only [Bool.and_eq_true] at hb
      have hs : u.cells.size = i.size := Nat.eq_of_beq_eq_true hb.1.1
      have hb' : off + i.size ≤ c.length := Nat.le_of_ble_eq_true hb.1.2
      have huc := hu.cells
      have hlen := huc.length
      simp at hlen
      have hrun := zHj hor hi (x := ev y) (by omega) (by rw [huc.one]; exact hb.2) hb'
      have how := zGj hor (o := off) huc (by simp; omega)
      obtain ⟨q1, q2, q3, q4⟩ := zBa (E.ρ b) (ev y).cells.toList off w
      obtain ⟨k1, k2⟩ := h.put hg ⟨q1, q2, q3, q4⟩ (fun k hk => zAu _ _ _ _ _ hk) how
      refine fun _ => ⟨.skip, _, E, ?_, .inr ⟨rfl, rfl⟩, dom0, k1, k2, fun u hu hl => by simp at hu; subst hu; rw [hg]; simp⟩
      simp [execOp, ho, hev, hrun]
   | _ => trivial
 ·trivial
end Go.Proofs.Ytpdeidlkeplegaa
