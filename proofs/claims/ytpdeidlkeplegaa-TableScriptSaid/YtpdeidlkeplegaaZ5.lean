/- DERIVED. Texts put together: M5, M6. -/
import Derived.ArgAppend
import Derived.Laws.IdiomStrings
import Derived.Laws.MakeOwn
import Derived.Test.YtpdeidlkeplegaaZ4
set_option maxRecDepth 1000000
set_option maxHeartbeats 32000000
namespace Go.Proofs.Ytpdeidlkeplegaa
open Go.RowKit
theorem HR.drew {P : Program} {E : Env} {G : Gh} {w : World} (h : HR P E G w) : HR P E G w.drew := ⟨h.lt, h.dom, h.obj, h.inj, h.ro, h.fz, h.fn, h.pos⟩
theorem Sound1.newD {P : Program} {E : Env} {G : Gh} {n : Nat} {w w1 : World} {r : Result Next} {v v' : Value} (h : HR P E G w) (hw : w1 = w ∨ w1 = w.drew) (ob : Obj) (o : AObj) (t s : Nat) (hr : r = .ok (.value v') (w1.alloc ob))
  (ho : ¬ E.dom n → OR P (E.push n w.heap.size t s) (w1.alloc ob) n o) (hv : VR (E.push n w.heap.size t s) v v') : Sound1 P E G n w r (.val v [(n, some o)] 1) := by
 rcases hw with rfl | rfl
 ·exact Sound1.new h ob o t s hr ho hv
 ·refine fun hk => ?_
  have hn := hk (by omega)
  obtain ⟨h1, h2⟩ := h.drew.new hn ob o t s (ho hn)
  exact ⟨_, _, _, hr, .inl ⟨v', rfl, hv⟩, dom1, h1, Stp.sub (W := []) ⟨h2.ext, h2.os, h2.tape, h2.output, h2.size, h2.block, h2.fresh, h2.fz⟩ (fun x hx => by cases hx), fun u hu hl => by simp at hu; subst hu; exact absurd hl hn⟩
theorem zPe {P : Program} {E : Env} {n : Nat} {w : World} {e : TypeId} {sz : Nat} {arr : Array Value} {c : List Value} (hn : ¬ E.dom n) (fr : Nat × Nat) (hfr : fr = (0, 0) ∨ (arr.size ≤ fr.1 ∧ P.underlying e = some (.int .u8))) (hi : (P.info? e).map (·.size) = some sz) (hl : c.length ≤ arr.size) (hv : VL E c (arr.toList.take c.length)) (hrs : restOK P e (arr.toList.drop c.length)) :
  OR P (E.push n w.heap.size arr.size sz) (w.alloc (.cells arr e fr)) n (.cells c e) := by
 refine ⟨arr, fr, ?_, hfr, ?_, ?_, hl, hv.ext (Env.push_ext hn _ _ _), Env.push_sh _ _ _ _ _, hrs⟩
 ·rw [Env.push_ρ]; exact heap_alloc_new w _
 ·rw [Env.push_tot]
 ·rw [Env.push_sz]; exact hi
theorem zHl {E : Env} {m b t s n c : Nat} (h1 : n ≤ c) (h2 : c ≤ maxLen) (h3 : c * s = t) : VR (E.push m b t s) (.slice (some ⟨m, 0, none⟩) n U) (.slice (some ⟨b, 0, none⟩) n c) := by
 have := VR.su (E := E.push m b t s) m 0 n c (E.push_dom m b t s) h1 h2 (by rw [Env.push_sz, Env.push_tot]; omega)
 rwa [Env.push_ρ, Env.push_sh] at this
def aMake (P : Program) (t : TypeId) (l c : Value) (n : Nat) : ORes :=
 match P.underlying t, l, c with
 | some (.slice e), .int _ l, .int _ c => (match P.info? e with
  | some i => (match i.zero with
   | some z => bif decide (0 ≤ l) && decide (l ≤ c) && decide ((i.bytes : Int) * c ≤ 281474976710656) && decide (c ≤ 9223372036854775807) then
     let cs := (madeCells z.cells (c.toNat * i.size)).toList
     bif plainL cs then zBo n cs e (.slice (some ⟨n, 0, none⟩) l.toNat c.toNat) else .bad "make: zero"
    else .bad "make: size"
   | none => .bad "make: no zero")
  | none => .bad "make: no type")
 | _, _, _ => .bad "make"
theorem toNat_U {c : Int} (h : c ≤ 9223372036854775807) : c.toNat ≠ U := by unfold U; omega
theorem aMake_ok {P : Program} {E : Env} {G : Gh} {n : Nat} {w : World} (h : HR P E G w) (t : TypeId) (x y : Operand) {ev : Operand → Value} {a b : Value} {o : Oper} (ho : o.op = .makeSlice t x y) (ha : VR E a (ev x)) (hb : VR E b (ev y)) :
  Sound1 P E G n w ((execOp ev o).run P w) (aMake P t a b n) := by
 unfold aMake
 split
 ·rename_i e lk l ck c hu
  have hx : ev x = .int lk l := by cases hv' : ev x <;> rw [hv'] at ha <;> cases ha; rfl
  have hy : ev y = .int ck c := by cases hv' : ev y <;> rw [hv'] at hb <;> cases hb; rfl
  cases hi : P.info? e with
  | none => trivial
  | some i =>
   simp only []
   cases hz : i.zero with
   | none => trivial
   | some z =>
    simp only []
    cases hc : (decide (0 ≤ l) && decide (l ≤ c) && decide ((i.bytes : Int) * c ≤ 281474976710656) && decide (c ≤ 9223372036854775807)) with
    | false => trivial
    | true =>
     simp only [Bool.and_eq_true, decide_eq_true_eq] at hc
     simp only [cond_true]
     cases hp : plainL (madeCells z.cells (c.toNat * i.size)).toList with
     | false => trivial
     | true =>
      have hr := run_make (P := P) w t e i z hu hi hz lk ck l c hc.1.1.1 hc.1.1.2 hc.1.2 hc.2
      refine Sound1.new h (.cells (madeCells z.cells (c.toNat * i.size)) e) _ (madeCells z.cells (c.toNat * i.size)).size i.size ?_ (fun hfr => zIh hfr (by simp [hi]) (zBq hp)) (zNy (toNat_U hc.2))
      simp [execOp, ho, hx, hy, hr]
 ·trivial
def sbound (v : Option Value) (y d : Nat) : Option Nat :=
 match v with
 | none => some d
 | some (.int _ i) => bif decide (0 ≤ i) && decide (i ≤ y) then some i.toNat else none
 | _ => none
theorem zHi {P : Program} {w : World} {k : IntKind} {i : Int} {y d r : Nat} (_code : Instr.sliceBound (.int k i) y = Instr.sliceBound (.int k i) y) (cd : BoundsCode) (h : sbound (some (.int k i)) y d = some r) : (Instr.sliceBound (.int k i) y cd).run P w = .ok r w := by
 simp only [sbound] at h
 cases hc : (decide (0 ≤ i) && decide (i ≤ y)) with
 | false => simp [hc] at h
 | true =>
  rw [hc] at h
  simp only [Bool.and_eq_true, decide_eq_true_eq] at hc
  simp at h; subst h
  simp [Instr.sliceBound, asIntOf, hc.1, hc.2]
theorem zBr {P : Program} {w : World} {isS : Bool} {len cap l h m : Nat} {lo hi mx : Option Value} (hm : sbound mx cap cap = some m) (hh : sbound hi m len = some h) (hx : mx.isSome = true → hi.isSome = true) (hl : sbound lo h 0 = some l) :
  (Instr.sliceBounds isS len cap lo hi mx).run P w = .ok (l, h, m) w := by
 have form : ∀ {v : Option Value} {y d r : Nat}, sbound v y d = some r → (v = none ∧ r = d) ∨ ∃ k i, v = some (.int k i) := by
  intro v y d r hs
  cases v with
  | none => simp [sbound] at hs; exact .inl ⟨rfl, hs.symm⟩
  | some v => cases v <;> simp [sbound] at hs; exact .inr ⟨_, _, rfl⟩
 rcases form hm with ⟨rfl, rfl⟩ | ⟨k, i, rfl⟩ <;> rcases form hh with ⟨rfl, rfl⟩ | ⟨k', i', rfl⟩ <;> rcases form hl with ⟨rfl, rfl⟩ | ⟨k'', i'', rfl⟩
 all_goals first
  | (simp at hx; done)
  | skip
 all_goals simp only [Instr.sliceBounds, Sem.run_bind, Sem.run_pure, Result.andThen_ok]
 all_goals try rw [zHi rfl _ hm]
 all_goals try simp only [Result.andThen_ok]
 all_goals try rw [zHi rfl _ hh]
 all_goals try simp only [Result.andThen_ok]
 all_goals try rw [zHi rfl _ hl]
 all_goals try simp only [Result.andThen_ok]
def sliceTo (b o size l h m : Nat) : Value := .slice (some ⟨b, bif m.beq l then o else o + l * size, none⟩) (h - l) (m - l)
def zEh (P : Program) (t : TypeId) (v : Value) (lo hi mx : Option Value) (G : Gh) : ORes :=
 bif mx.isSome && !hi.isSome then .bad "slice: max" else
 match P.underlying t, v with
 | some (.slice e), .slice (some ⟨b, o, none⟩) n c => (match P.info? e with
  | some i =>
   bif c.beq U then
    (match mx with
    | none => (match sbound hi n n with
     | some h => (match sbound lo h 0 with
      | some l => (match G b with
       | some (.cells _ e') => bif e'.beq e then .val (.slice (some ⟨b, o + l * i.size, none⟩) (h - l) U) [] 0 else .bad "slice: type"
       | some (.win _ z) => bif z.beq i.size then .val (.slice (some ⟨b, o + l * i.size, none⟩) (h - l) U) [] 0 else .bad "slice: type"
       | _ => .bad "slice: block")
      | none => .bad "slice: low")
     | none => (match G b with
      | some (.cells cc e') => bif e'.beq e && Nat.blt 0 i.size then
        (match hi, sbound hi ((cc.length - o) / i.size) n with
        | some _, some h => (match sbound lo h 0 with
         | some l => .val (.slice (some ⟨b, o + l * i.size, none⟩) (h - l) U) [] 0
         | none => .bad "slice: low")
        | _, _ => .bad "slice: high")
       else .bad "slice: type"
      | _ => .bad "slice: block"))
    | some mv => (match sbound (some mv) n n with
     | some m => (match sbound hi m n with
      | some h => (match sbound lo h 0 with
       | some l => bif Nat.blt (m - l) 1180591620717411303424 then .val (sliceTo b o i.size l h m) [] 0 else .bad "slice: cap"
       | none => .bad "slice: low")
      | none => .bad "slice: high")
     | none => .bad "slice: max"))
   else
    (match sbound mx c c with
    | some m => (match sbound hi m n with
     | some h => (match sbound lo h 0 with
      | some l => bif Nat.blt (m - l) 1180591620717411303424 then .val (sliceTo b o i.size l h m) [] 0 else .bad "slice: cap"
      | none => .bad "slice: low")
     | none => .bad "slice: high")
    | none => .bad "slice: max")
  | none => .bad "slice: no type")
 | some (.array n e), .pointer (some ⟨b, o, none⟩) => (match P.info? e with
  | some i => (match sbound mx n n with
   | some m => (match sbound hi m n with
    | some h => (match sbound lo h 0 with
     | some l => bif Nat.blt (m - l) 1180591620717411303424 then .val (sliceTo b o i.size l h m) [] 0 else .bad "slice: cap"
     | none => .bad "slice: low")
    | none => .bad "slice: high")
   | none => .bad "slice: max")
  | none => .bad "slice: no type")
 | some (.slice e), .func (.via z _ n false) _ ⟨cs⟩ => (match P.info? e with
  | some i => bif z.beq i.size then
   (match sbound mx n n with
   | some m => (match sbound hi m n with
    | some h => (match sbound lo h 0 with
     | some l => .val (treeV z (h - l) ((cs.drop (l * z)).take ((h - l) * z))) [] 0
     | none => .bad "slice: low")
    | none => .bad "slice: high")
   | none => .bad "slice: max") else .bad "slice: size"
  | none => .bad "slice: no type")
 | _, _ => .bad "slice"
theorem VR.tree_part {E : Env} {z n b o cap' l h : Nat} {cs : List Value} {a2 : Option Addr} {x : Nat → Value} (hl : cs.length = n * z) (h1 : ∀ j, j < cs.length → fzc E.fz b (o + j) = some (x j)) (h2 : ∀ j v, cs[j]? = some v → DV E.fz v (x j)) (hh : h ≤ n) (hc : h - l ≤ cap') (hm : cap' ≤ maxLen) (ha : a2 = some ⟨b, o + l * z, none⟩ ∨ (h - l = 0 ∧ (a2 = none → cap' = 0))) :
  VR E (treeV z (h - l) ((cs.drop (l * z)).take ((h - l) * z))) (.slice a2 (h - l) cap') := by
 refine .deep _ _ _ _ _ _ _ (.tree z (h - l) cap' b (o + l * z) _ a2 (fun j => x (l * z + j)) ?_ hc hm ha (fun j hj => ?_) (fun j v hj => ?_))
 ·rw [List.length_take, List.length_drop, hl]
  rcases Nat.le_total h l with h3 | h3
  ·rw [Nat.sub_eq_zero_of_le h3]; simp
  ·have : (h - l) * z + l * z ≤ n * z := by rw [← Nat.add_mul]; exact Nat.mul_le_mul_right _ (by omega)
   omega
 ·rw [List.length_take, List.length_drop] at hj
  rw [Nat.add_assoc]; exact h1 _ (by omega)
 ·have hlt : j < (h - l) * z := by have := (List.getElem?_eq_some_iff.1 hj).1; rw [List.length_take] at this; omega
  rw [List.getElem?_take_of_lt hlt, List.getElem?_drop] at hj
  exact h2 _ v hj
theorem VR.int_eq {E : Env} {k : IntKind} {i : Int} {v' : Value} (h : VR E (.int k i) v') : v' = .int k i := by cases h; rfl
theorem zAl {E : Env} {ev ev' : Operand → Value} {x : Option Operand} {y d r : Nat} (hv : ∀ z, x = some z → VR E (ev z) (ev' z)) (h : sbound (x.map ev) y d = some r) : x.map ev' = x.map ev := by
 cases x with
 | none => rfl
 | some z =>
  have := hv z rfl
  simp only [Option.map_some] at h ⊢
  cases hz : ev z <;> rw [hz] at h this <;> simp [sbound] at h
  rw [this.int_eq]
theorem zFq {E : Env} {b o size l h m : Nat} (hb : E.dom b) (hU : m - l ≠ U) : VR E (sliceTo b o size l h m) (.slice (some (if m = l then ⟨E.ρ b, E.sh b + o, none⟩ else ⟨E.ρ b, E.sh b + o + l * size, none⟩)) (h - l) (m - l)) := by
 unfold sliceTo
 by_cases hm : m = l
 ·subst hm; simp only [Nat.beq_refl, cond_true, if_true]; exact .sl b _ _ _ hb hU
 ·have : m.beq l = false := by cases hb : m.beq l; rfl; exact absurd (Nat.eq_of_beq_eq_true hb) hm
  rw [this, if_neg hm, Nat.add_assoc]; exact .sl b _ _ _ hb hU
theorem zAy {k : IntKind} {i : Int} {y d r : Nat} : sbound (some (.int k i)) y d = some r ↔ 0 ≤ i ∧ i ≤ y ∧ r = i.toNat := by
 simp only [sbound]
 by_cases h1 : 0 ≤ i <;> by_cases h2 : i ≤ y <;> simp [h1, h2, eq_comm]
theorem zAq {v : Option Value} {y d r : Nat} (h : sbound v y d = some r) : r = d ∧ v = none ∨ r ≤ y := by
 cases v with
 | none => simp [sbound] at h; exact .inl ⟨h.symm, rfl⟩
 | some v =>
  cases v <;> try (simp [sbound] at h; done)
  obtain ⟨h1, h2, h3⟩ := zAy.1 h
  right; omega
theorem zCn {v : Option Value} {y y' d r : Nat} (hy : y ≤ y') (h : sbound v y d = some r) : sbound v y' d = some r := by
 cases v with
 | none => exact h
 | some v =>
  cases v <;> try (simp [sbound] at h; done)
  obtain ⟨h1, h2, h3⟩ := zAy.1 h
  exact zAy.2 ⟨h1, by omega, h3⟩
theorem VR.slice_inv {E : Env} {b o n c : Nat} {v' : Value} (h : VR E (.slice (some ⟨b, o, none⟩) n c) v') :
  E.dom b ∧ ((c ≠ U ∧ v' = .slice (some ⟨E.ρ b, E.sh b + o, none⟩) n c) ∨ (c = U ∧ ∃ c', v' = .slice (some ⟨E.ρ b, E.sh b + o, none⟩) n c' ∧ n ≤ c' ∧ c' ≤ maxLen ∧ o + c' * E.sz b = E.tot b) ∨
   (n = 0 ∧ ((c = U ∧ E.tot b ≤ o) ∨ c = 0) ∧ ∃ a' : Option Addr, (a' = none → c = 0) ∧ v' = .slice a' 0 0)) := by
 cases h with
 | sl _ _ _ _ h hc => exact ⟨h, .inl ⟨hc, rfl⟩⟩
 | su _ _ _ c' h h1 h2 h3 => exact ⟨h, .inr (.inl ⟨rfl, c', rfl, h1, h2, h3⟩)⟩
 | se _ _ _ a' h ha hc => exact ⟨h, .inr (.inr ⟨rfl, hc, a', ha, rfl⟩)⟩
theorem VR.su0 {E : Env} {b o n c : Nat} (hz : E.sh b = 0) (h : E.dom b) (h1 : n ≤ c) (h2 : c ≤ maxLen) (h3 : o + c * E.sz b = E.tot b) : VR E (.slice (some ⟨b, o, none⟩) n U) (.slice (some ⟨E.ρ b, o, none⟩) n c) := by
 have := VR.su (E := E) b o n c h h1 h2 h3
 rwa [hz, Nat.zero_add] at this
theorem VR.sl0 {E : Env} {b o n c : Nat} (hz : E.sh b = 0) (h : E.dom b) (hc : c ≠ U) : VR E (.slice (some ⟨b, o, none⟩) n c) (.slice (some ⟨E.ρ b, o, none⟩) n c) := by
 have := VR.sl (E := E) b o n c h hc
 rwa [hz, Nat.zero_add] at this
theorem VR.ptr_inv {E : Env} {b o : Nat} {v' : Value} (h : VR E (.pointer (some ⟨b, o, none⟩)) v') : E.dom b ∧ v' = .pointer (some ⟨E.ρ b, E.sh b + o, none⟩) := by
 cases h with
 | ptr _ _ h => exact ⟨h, rfl⟩
theorem aSlice_ok {P : Program} {E : Env} {G : Gh} {nn : Nat} {w : World} (h : HR P E G w) (t : TypeId) (x : Operand) (lo hi mx : Option Operand) {ev ev' : Operand → Value} {o : Oper} (ho : o.op = .slice t x lo hi mx) (hv : ∀ x ∈ o.op.operands, VR E (ev x) (ev' x)) :
  Sound1 P E G nn w ((execOp ev' o).run P w) (zEh P t (ev x) (lo.map ev) (hi.map ev) (mx.map ev) G) := by
 have vx : VR E (ev x) (ev' x) := hv x (by rw [ho]; simp [Op.operands])
 have vlo : ∀ z, lo = some z → VR E (ev z) (ev' z) := fun z hz => hv z (by rw [ho]; simp [Op.operands, hz])
 have vhi : ∀ z, hi = some z → VR E (ev z) (ev' z) := fun z hz => hv z (by rw [ho]; simp [Op.operands, hz])
 have vmx : ∀ z, mx = some z → VR E (ev z) (ev' z) := fun z hz => hv z (by rw [ho]; simp [Op.operands, hz])
 unfold zEh
 cases hx : ((mx.map ev).isSome && !(hi.map ev).isSome) with
 | true => trivial
 | false =>
  have hx' : (mx.map ev').isSome = true → (hi.map ev').isSome = true := by
   intro hm
   cases mx with
   | none => simp at hm
   | some m => cases hi with | none => simp at hx | some h => rfl
  simp only [cond_false]
  split
  ·rename_i e b off n c hu hev
   rw [hev] at vx
   cases hi' : P.info? e with
   | none => trivial
   | some i =>
    simp only []
    cases hc : c.beq U with
    | false =>
     simp only [cond_false]
     have hcU : c ≠ U := fun e => by rw [e] at hc; simp at hc
     cases hm : sbound (mx.map ev) c c with
     | none => trivial
     | some m =>
      simp only []
      cases hh : sbound (hi.map ev) m n with
      | none => trivial
      | some hh' =>
       simp only []
       cases hl : sbound (lo.map ev) hh' 0 with
       | none => trivial
       | some l =>
        simp only []
        cases hU : Nat.blt (m - l) 1180591620717411303424 with
        | false => trivial
        | true =>
         simp only [cond_true]
         have e1 := zAl vmx hm
         have e2 := zAl vhi hh
         have e3 := zAl vlo hl
         have hrun := fun (w : World) (isS : Bool) => zBr (P := P) (w := w) (isS := isS) hm hh (by rw [← e1, ← e2]; exact hx') hl
         rw [← e1, ← e2, ← e3] at hrun
         obtain ⟨hb, ⟨_, vx'⟩ | ⟨he, _⟩ | ⟨hn0, hc0, a', ha', vx'⟩⟩ := vx.slice_inv
         ·refine Sound1.pure h (v' := .slice (some (if m = l then ⟨E.ρ b, E.sh b + off, none⟩ else ⟨E.ρ b, E.sh b + off + l * i.size, none⟩)) (hh' - l) (m - l)) ?_ (zFq hb (lt_U hU))
          by_cases hml : m = l <;> simp [execOp, ho, vx', Instr.sliceAt, Instr.slice, run_underlying hu, hrun, sizeOf, typeInfo, hi', hml, zAi]
         ·exact absurd he hcU
         ·subst hn0
          have hc0 : c = 0 := hc0.resolve_left (fun x => hcU x.1)
          subst hc0
          have hm0 : m = 0 := by rcases zAq hm with h1 | h1 <;> omega
          subst hm0
          have hh0 : hh' = 0 := by rcases zAq hh with h1 | h1 <;> omega
          subst hh0
          have hl0 : l = 0 := by rcases zAq hl with h1 | h1 <;> omega
          subst hl0
          refine Sound1.pure h (v' := .slice a' 0 0) ?_ ?_
          ·cases a' <;> simp [execOp, ho, vx', Instr.sliceAt, Instr.slice, run_underlying hu, hrun, sizeOf, typeInfo, hi']
          ·exact .se b _ _ _ hb (fun _ => rfl) (.inr rfl)
    | true =>
     have hcU : c = U := Nat.eq_of_beq_eq_true hc
     subst hcU
     simp only [cond_true]
     cases hmx : mx.map ev with
     | none =>
      simp only []
      cases hh : sbound (hi.map ev) n n with
      | none =>
       simp only []
       cases hg : G b with
       | none => trivial
       | some ob =>
        cases ob <;> try trivial
        rename_i cs e'
        simp only []
        cases he : (e'.beq e && Nat.blt 0 i.size) with
        | false => trivial
        | true =>
         simp only [Bool.and_eq_true] at he
         have he' : e' = e := Nat.eq_of_beq_eq_true he.1
         have hpos : 0 < i.size := Nat.le_of_ble_eq_true he.2
         subst he'
         simp only [cond_true]
         cases hhi : hi.map ev with
         | none => trivial
         | some hv =>
          cases hh2 : sbound (some hv) ((cs.length - off) / i.size) n with
          | none => trivial
          | some hh' =>
           simp only []
           cases hl : sbound (lo.map ev) hh' 0 with
           | none => trivial
           | some l =>
            simp only []
            obtain ⟨arr, fr, p1, p2, p3, hsz, p5, p6, p7, _⟩ := h.obj b _ hg
            have hsz : i.size = E.sz b := by simpa [hi'] using hsz
            have hmx' : mx.map ev' = none := by cases mx with | none => rfl | some z => simp at hmx
            have hh3 : sbound (hi.map ev) ((cs.length - off) / i.size) n = some hh' := by rw [hhi]; exact hh2
            have e2 := zAl vhi hh3
            have e3 := zAl vlo hl
            have hhk : hh' ≤ (cs.length - off) / i.size := by
             rcases zAq hh2 with ⟨_, h1⟩ | h1
             ·cases h1
             ·exact h1
            have hln : l ≤ hh' := by rcases zAq hl with h1 | h1 <;> omega
            obtain ⟨hb, ⟨hcc, _⟩ | ⟨_, c', vx', h1, h2, h3⟩ | ⟨hn0, hc0, a', ha', vx'⟩⟩ := vx.slice_inv
            ·exact absurd rfl hcc
            ·have hkc : (cs.length - off) / i.size ≤ c' := by
              have q : (cs.length - off) / i.size * i.size ≤ cs.length - off := Nat.div_mul_le_self _ _
              have q2 : cs.length - off ≤ c' * i.size := by rw [hsz]; omega
              exact Nat.le_of_mul_le_mul_right (Nat.le_trans q q2) hpos
             have hrun : ∀ (w : World) (isS : Bool), (Instr.sliceBounds isS n c' (lo.map ev') (hi.map ev') none).run P w = .ok (l, hh', c') w := fun w isS => by
              rw [e2, e3]
              exact zBr (m := c') rfl (zCn hkc hh3) (by simp) hl
             by_cases hcl : c' = l
             ·have : hh' - l = 0 := by omega
              rw [this]
              refine Sound1.pure h (v' := .slice (some ⟨E.ρ b, E.sh b + off, none⟩) 0 0) ?_ (.se b _ _ _ hb (fun x => by cases x) (.inl ⟨rfl, by rw [hsz, ← h3, hcl]; exact Nat.le_refl _⟩))
              have hr := hrun w true
              rw [hcl] at hr
              simp [execOp, ho, vx', hmx', Instr.sliceAt, Instr.slice, run_underlying hu, hr, sizeOf, typeInfo, hi', hcl, this]
             ·refine Sound1.pure h (v' := .slice (some ⟨E.ρ b, E.sh b + (off + l * i.size), none⟩) (hh' - l) (c' - l)) ?_ ?_
              ·simp [execOp, ho, vx', hmx', Instr.sliceAt, Instr.slice, run_underlying hu, hrun, sizeOf, typeInfo, hi', hcl, zAi, Nat.add_assoc]
              ·refine .su b _ _ _ hb (by omega) (by omega) ?_
               rw [hsz]
               have hlc : l ≤ c' := by omega
               have e5 : l * E.sz b + (c' - l) * E.sz b = c' * E.sz b := by rw [← Nat.add_mul, Nat.add_sub_cancel' hlc]
               rw [Nat.add_assoc, e5]; exact h3
            ·subst hn0
             have hz : sbound (some hv) 0 0 = none := by rw [← hhi]; exact hh
             have hk1 : 1 ≤ hh' := by
              rcases Nat.eq_zero_or_pos hh' with h0 | h0
              ·subst h0
               cases hv with
               | int k i =>
                obtain ⟨a1, a2, a3⟩ := zAy.1 hh2
                have : sbound (some (.int k i)) 0 0 = some 0 := zAy.2 ⟨a1, by omega, a3⟩
                rw [this] at hz; cases hz
               | _ => simp [sbound] at hh2
              ·exact h0
             have hgt : off < cs.length := by
              rcases Nat.lt_or_ge off cs.length with h0 | h0
              ·exact h0
              ·rw [Nat.sub_eq_zero_of_le h0, Nat.zero_div] at hhk; omega
             rcases hc0 with ⟨_, h0⟩ | h0
             ·omega
             ·simp [U] at h0
      | some hh' =>
       simp only []
       cases hl : sbound (lo.map ev) hh' 0 with
       | none => trivial
       | some l =>
        simp only []
        cases hg : G b with
        | none => trivial
        | some ob =>
         have fin : i.size = E.sz b → Sound1 P E G nn w ((execOp ev' o).run P w) (.val (.slice (some ⟨b, off + l * i.size, none⟩) (hh' - l) U) [] 0) := by
          intro hsz
          have hmx' : mx.map ev' = none := by cases mx with | none => rfl | some z => simp at hmx
          have e2 := zAl vhi hh
          have e3 := zAl vlo hl
          have hhn : hh' ≤ n := by rcases zAq hh with h1 | h1 <;> omega
          have hln : l ≤ hh' := by rcases zAq hl with h1 | h1 <;> omega
          have hrun : ∀ (w : World) (isS : Bool) (c' : Nat), n ≤ c' → (Instr.sliceBounds isS n c' (lo.map ev') (hi.map ev') none).run P w = .ok (l, hh', c') w := fun w isS c' hc' => by
           rw [e2, e3]
           exact zBr (m := c') rfl (zCn hc' hh) (by simp) hl
          obtain ⟨hb, ⟨hcc, _⟩ | ⟨_, c', vx', h1, h2, h3⟩ | ⟨hn0, hc0, a', ha', vx'⟩⟩ := vx.slice_inv
          ·exact absurd rfl hcc
          ·skip
           by_cases hcl : c' = l
           ·have : hh' - l = 0 := by omega
            rw [this]
            refine Sound1.pure h (v' := .slice (some ⟨E.ρ b, E.sh b + off, none⟩) 0 0) ?_ (.se b _ _ _ hb (fun x => by cases x) (.inl ⟨rfl, by rw [hsz, ← h3, hcl]; exact Nat.le_refl _⟩))
            have hr := hrun w true c' h1
            rw [hcl] at hr
            simp [execOp, ho, vx', hmx', Instr.sliceAt, Instr.slice, run_underlying hu, hr, sizeOf, typeInfo, hi', hcl, this]
           ·refine Sound1.pure h (v' := .slice (some ⟨E.ρ b, E.sh b + (off + l * i.size), none⟩) (hh' - l) (c' - l)) ?_ ?_
            ·simp [execOp, ho, vx', hmx', Instr.sliceAt, Instr.slice, run_underlying hu, hrun _ _ _ h1, sizeOf, typeInfo, hi', hcl, zAi, Nat.add_assoc]
            ·refine .su b _ _ _ hb (by omega) (by omega) ?_
             rw [hsz]
             have hlc : l ≤ c' := Nat.le_trans hln (Nat.le_trans hhn h1)
             have e5 : l * E.sz b + (c' - l) * E.sz b = c' * E.sz b := by rw [← Nat.add_mul, Nat.add_sub_cancel' hlc]
             rw [Nat.add_assoc, e5]; exact h3
          ·subst hn0
           have hh0 : hh' = 0 := by omega
           subst hh0
           have hl0 : l = 0 := by omega
           subst hl0
           have hU0 : U ≠ 0 := by simp [U]
           refine Sound1.pure h (v' := .slice a' 0 0) ?_ (.se b _ _ _ hb (fun x => absurd (ha' x) hU0) (hc0.imp (fun x => ⟨rfl, by simpa using x.2⟩) (fun x => by simp [U] at x)))
           cases a' <;> simp [execOp, ho, vx', hmx', Instr.sliceAt, Instr.slice, run_underlying hu, hrun _ _ 0 (Nat.le_refl 0), sizeOf, typeInfo, hi']
         cases ob with
         | cells cs e' =>
          simp only []
          cases he : e'.beq e with
          | false => trivial
          | true =>
           have he' : e' = e := Nat.eq_of_beq_eq_true he
           subst he'
           obtain ⟨_, _, _, _, _, hsz, _, _⟩ := h.obj b _ hg
           exact fin (by simpa [hi'] using hsz)
         | win cs z =>
          simp only []
          cases he : z.beq i.size with
          | false => trivial
          | true => exact fin (by rw [(h.obj b _ hg).1]; exact (Nat.eq_of_beq_eq_true he).symm)
         | _ => trivial
     | some mv =>
      simp only []
      cases hm : sbound (some mv) n n with
      | none => trivial
      | some m =>
       simp only []
       cases hh : sbound (hi.map ev) m n with
       | none => trivial
       | some hh' =>
        simp only []
        cases hl : sbound (lo.map ev) hh' 0 with
        | none => trivial
        | some l =>
         simp only []
         cases hU : Nat.blt (m - l) 1180591620717411303424 with
         | false => trivial
         | true =>
          simp only [cond_true]
          have hm2 : sbound (mx.map ev) n n = some m := by rw [hmx]; exact hm
          have e1 := zAl vmx hm2
          have e2 := zAl vhi hh
          have e3 := zAl vlo hl
          have hmn : m ≤ n := by rcases zAq hm with h1 | h1 <;> omega
          have hrun : ∀ (w : World) (isS : Bool) (c' : Nat), n ≤ c' → (Instr.sliceBounds isS n c' (lo.map ev') (hi.map ev') (mx.map ev')).run P w = .ok (l, hh', m) w := fun w isS c' hc' => by
           refine zBr ?_ (by rw [e2]; exact hh) hx' (by rw [e3]; exact hl)
           rw [e1, hmx]
           have := zCn (d := n) hc' hm
           cases mv <;> simp [sbound] at this ⊢ <;> exact this
          obtain ⟨hb, ⟨hcc, _⟩ | ⟨_, c', vx', h1, h2, h3⟩ | ⟨hn0, hc0, a', ha', vx'⟩⟩ := vx.slice_inv
          ·exact absurd rfl hcc
          ·skip
           refine Sound1.pure h (v' := .slice (some (if m = l then ⟨E.ρ b, E.sh b + off, none⟩ else ⟨E.ρ b, E.sh b + off + l * i.size, none⟩)) (hh' - l) (m - l)) ?_ (zFq hb (lt_U hU))
           by_cases hml : m = l <;> simp [execOp, ho, vx', Instr.sliceAt, Instr.slice, run_underlying hu, hrun _ _ _ h1, sizeOf, typeInfo, hi', hml, zAi]
          ·subst hn0
           have hm0 : m = 0 := by omega
           subst hm0
           have hh0 : hh' = 0 := by rcases zAq hh with h1 | h1 <;> omega
           subst hh0
           have hl0 : l = 0 := by rcases zAq hl with h1 | h1 <;> omega
           subst hl0
           refine Sound1.pure h (v' := .slice a' 0 0) ?_ ?_
           ·cases a' <;> simp [execOp, ho, vx', Instr.sliceAt, Instr.slice, run_underlying hu, hrun _ _ 0 (Nat.le_refl 0), sizeOf, typeInfo, hi']
           ·exact .se b _ _ _ hb (fun _ => rfl) (.inr rfl)
  ·rename_i n e b off hu hev
   rw [hev] at vx
   cases hi' : P.info? e with
   | none => trivial
   | some i =>
    simp only []
    cases hm : sbound (mx.map ev) n n with
    | none => trivial
    | some m =>
     simp only []
     cases hh : sbound (hi.map ev) m n with
     | none => trivial
     | some hh' =>
      simp only []
      cases hl : sbound (lo.map ev) hh' 0 with
      | none => trivial
      | some l =>
       simp only []
       cases hU : Nat.blt (m - l) 1180591620717411303424 with
       | false => trivial
       | true =>
        simp only [cond_true]
        have e1 := zAl vmx hm
        have e2 := zAl vhi hh
        have e3 := zAl vlo hl
        have hrun := fun (w : World) (isS : Bool) => zBr (P := P) (w := w) (isS := isS) hm hh (by rw [← e1, ← e2]; exact hx') hl
        rw [← e1, ← e2, ← e3] at hrun
        obtain ⟨hb, vx'⟩ := vx.ptr_inv
        refine Sound1.pure h (v' := .slice (some (if m = l then ⟨E.ρ b, E.sh b + off, none⟩ else ⟨E.ρ b, E.sh b + off + l * i.size, none⟩)) (hh' - l) (m - l)) ?_ (zFq hb (lt_U hU))
        by_cases hml : m = l <;> simp [execOp, ho, vx', Instr.sliceAt, Instr.sureAddr, run_underlying hu, hrun, sizeOf, typeInfo, hi', hml, zAi]
  ·rename_i e z p n g cs hu hev
   rw [hev] at vx
   obtain ⟨b, off, cap, a', y, vx', hl0, hnc, hmm, ha, h1, h2⟩ := vx.tree_inv
   simp only [] at hl0 h1 h2
   cases hi' : P.info? e with
   | none => trivial
   | some i =>
    simp only []
    cases hz : z.beq i.size with
    | false => trivial
    | true =>
     have hz := Nat.eq_of_beq_eq_true hz
     subst hz
     simp only [cond_true]
     cases hm : sbound (mx.map ev) n n with
     | none => trivial
     | some m =>
      simp only []
      cases hh : sbound (hi.map ev) m n with
      | none => trivial
      | some hh' =>
       simp only []
       cases hl : sbound (lo.map ev) hh' 0 with
       | none => trivial
       | some l =>
        simp only []
        have e1 := zAl vmx hm
        have e2 := zAl vhi hh
        have e3 := zAl vlo hl
        have hmn : m ≤ n := by rcases zAq hm with h1 | h1 <;> omega
        have hhm : hh' ≤ n := by rcases zAq hh with h1 | h1 <;> omega
        have hll : l ≤ hh' := by rcases zAq hl with h1 | h1 <;> omega
        obtain ⟨m2, hm2, hlm, hhm2⟩ : ∃ m2, (∀ (w : World) (isS : Bool), (Instr.sliceBounds isS n cap (lo.map ev') (hi.map ev') (mx.map ev')).run P w = .ok (l, hh', m2) w) ∧ m2 ≤ cap ∧ hh' ≤ m2 := by
         cases hmx : mx.map ev with
         | none =>
          refine ⟨cap, fun w isS => ?_, Nat.le_refl _, by omega⟩
          rw [hmx] at hm e1
          have hmn' : n = m := by simpa [sbound] using hm
          subst hmn'
          rw [e1, e2, e3]
          exact zBr (by simp [sbound]) (zCn hnc hh) (by simp) hl
         | some mv =>
          have hq : hh' ≤ m := by
           rcases zAq hh with ⟨_, hnone⟩ | h3
           ·rw [hmx, hnone] at hx; simp at hx
           ·exact h3
          refine ⟨m, fun w isS => ?_, by omega, hq⟩
          refine zBr ?_ (by rw [e2]; exact hh) hx' (by rw [e3]; exact hl)
          rw [e1, hmx]
          rw [hmx] at hm
          have := zCn (d := n) hnc hm
          cases mv <;> simp [sbound] at this ⊢ <;> exact this
        rcases ha with rfl | ⟨h0, h0'⟩
        ·refine Sound1.pure h (v' := .slice (some (if m2 = l then ⟨b, off, none⟩ else ⟨b, off + l * i.size, none⟩)) (hh' - l) (m2 - l)) ?_ (VR.tree_part hl0 h1 h2 hhm (by omega) (by omega) ?_)
         ·by_cases hml : m2 = l <;> simp [execOp, ho, vx', Instr.sliceAt, Instr.slice, run_underlying hu, hm2, sizeOf, typeInfo, hi', hml, zAi]
         ·by_cases hml : m2 = l
          ·exact .inr ⟨by omega, fun e => by cases e⟩
          ·rw [if_neg hml]; exact .inl rfl
        ·have e4 : hh' = 0 := by omega
         have e5 : l = 0 := by omega
         subst e4; subst e5; subst h0
         cases a' with
         | none =>
          have h0' := h0' rfl
          have e6 : m2 = 0 := by omega
          subst e6; subst h0'
          refine Sound1.pure h (v' := .slice none 0 0) ?_ (VR.tree_part hl0 h1 h2 (Nat.le_refl 0) (Nat.le_refl 0) (Nat.zero_le _) (.inr ⟨rfl, fun _ => rfl⟩))
          simp [execOp, ho, vx', Instr.sliceAt, Instr.slice, run_underlying hu, hm2, sizeOf, typeInfo, hi']
         | some ad =>
          refine Sound1.pure h (v' := .slice (some ad) 0 m2) ?_ (VR.tree_part hl0 h1 h2 (Nat.le_refl 0) (Nat.zero_le _) (by omega) (.inr ⟨rfl, fun e => by cases e⟩))
          by_cases hml : m2 = 0 <;> simp [execOp, ho, vx', Instr.sliceAt, Instr.slice, run_underlying hu, hm2, sizeOf, typeInfo, hi', hml, Addr.add]
  ·trivial
end Go.Proofs.Ytpdeidlkeplegaa
namespace Go.Proofs.Ytpdeidlkeplegaa
open Go.RowKit
def zAk (G : Gh) (sz : Nat) (v : Value) : Option (Nat × List Value) :=
 match v with
 | .slice none n _ => bif n.beq 0 then some (0, []) else none
 | .slice (some ⟨b, o, none⟩) n _ =>
  bif n.beq 0 then some (0, []) else
  match (G b).bind AObj.look with
  | some c => bif (o + n * sz).ble c.length then some (n, (c.drop o).take (n * sz)) else none
  | _ => none
 | .string s => bif sz.beq 1 then some (s.data.toList.length, s.data.toList.map fun b => .int .u8 b.toNat) else none
 | .func (.via z _ n false) _ ⟨cs⟩ => bif z.beq sz then some (n, cs) else none
 | _ => none
structure Src (P : Program) (w : World) (sz : Nat) (v : Value) (m : Nat) (cs : List Value) : Prop where
 len : ∀ w' : World, (Builtin.lenOf v).run P w' = .ok m w'
 first : ∀ (w' : World) (k : Nat), w'.heap = w.heap → k ≤ m → (Builtin.firstCells sz k v).run P w' = .ok (cs.take (k * sz)).toArray w'
 size : cs.length = m * sz
theorem zGq {P : Program} {w : World} {sz : Nat} {b o n c : Nat} {cs : List Value} (hl : cs.length = n * sz) (h : ∀ j v, cs[j]? = some v → w.cell? ⟨b, o + j, none⟩ = some v) : Src P w sz (.slice (some ⟨b, o, none⟩) n c) n cs := by
 refine ⟨fun w' => by simp [Builtin.lenOf], fun w' k hw hk => ?_, hl⟩
 have hk' : k * sz ≤ n * sz := Nat.mul_le_mul_right _ hk
 have := run_loadCells_list (P := P) w' ⟨b, o, none⟩ (cs.take (k * sz)) (fun j v hj => by
  rw [zAi]
  have hj' : j < k * sz := by have := (List.getElem?_eq_some_iff.1 hj).1; simp at this; omega
  rw [List.getElem?_take_of_lt hj'] at hj
  have := h j v hj
  simpa [World.cell?, hw] using this)
 rw [show (cs.take (k * sz)).length = k * sz by simp; omega] at this
 simp [Builtin.firstCells, this]
theorem zJu {P : Program} {w : World} {sz : Nat} {a : Option Addr} {c : Nat} : Src P w sz (.slice a 0 c) 0 [] := by
 refine ⟨fun w' => by simp [Builtin.lenOf], fun w' k hw hk => ?_, by simp⟩
 have hk : k = 0 := by omega
 subst hk
 cases a with
 | none => simp [Builtin.firstCells]
 | some a => simp [Builtin.firstCells, loadCells, loadCellsFrom]
theorem zSs {P : Program} {w : World} {s : ByteArray} : Src P w 1 (.string s) s.data.toList.length (s.data.toList.map fun b => .int .u8 b.toNat) := by
 refine ⟨fun w' => rfl, fun w' k hw hk => ?_, by rw [List.length_map, Nat.mul_one]⟩
 have e : (s.extract 0 k).data = s.data.extract 0 k := ByteArray.data_extract
 show Result.ok ((s.extract 0 k).data.map fun b => Value.int .u8 b.toNat) w' = _
 rw [e, Nat.mul_one]
 congr 1
 apply Array.ext'
 rw [Array.toList_map, Array.toList_extract, List.extract_eq_take_drop, List.drop_zero, Nat.sub_zero, List.map_take]
theorem zDy {P : Program} {E : Env} {G : Gh} {w : World} (h : HR P E G w) {sz m : Nat} {v v' : Value} {cs : List Value} (hv : VR E v v') (hs : zAk G sz v = some (m, cs)) :
  ∃ cs', Src P w sz v' m cs' ∧ VL E cs cs' := by
 unfold zAk at hs
 split at hs
 ·rename_i n c
  cases hv
  cases hn : n.beq 0 with
  | false => simp [hn] at hs
  | true =>
   have : n = 0 := Nat.eq_of_beq_eq_true hn
   subst this
   simp at hs
   obtain ⟨rfl, rfl⟩ := hs
   exact ⟨[], zJu, .nil⟩
 ·rename_i b o n c
  cases hn : n.beq 0 with
  | true =>
   have : n = 0 := Nat.eq_of_beq_eq_true hn
   subst this
   simp at hs
   obtain ⟨rfl, rfl⟩ := hs
   obtain ⟨hb, ⟨_, rfl⟩ | ⟨_, c', rfl, _⟩ | ⟨_, _, o', _, rfl⟩⟩ := hv.slice_inv
   all_goals exact ⟨[], zJu, .nil⟩
  | false =>
   have hn0 : n ≠ 0 := fun e => by rw [e] at hn; simp at hn
   simp only [hn, cond_false] at hs
   cases hg0 : (G b).bind AObj.look with
   | none => simp [hg0] at hs
   | some cc =>
    simp only [hg0] at hs
    obtain ⟨ob, hg, hlk⟩ := Option.bind_eq_some_iff.1 hg0
    cases hb : (o + n * sz).ble cc.length with
    | false => simp [hb] at hs
    | true =>
     simp only [hb, cond_true, Option.some.injEq, Prod.mk.injEq] at hs
     obtain ⟨rfl, rfl⟩ := hs
     have hb' : o + n * sz ≤ cc.length := Nat.le_of_ble_eq_true hb
     obtain ⟨l, hlen, hsub, hcell⟩ := (h.obj b _ hg).look_sub hlk hb'
     obtain ⟨hbn, ⟨_, rfl⟩ | ⟨_, c', rfl, _⟩ | ⟨h0, _⟩⟩ := hv.slice_inv
     ·exact ⟨_, zGq hlen hcell, hsub⟩
     ·exact ⟨_, zGq hlen hcell, hsub⟩
     ·exact absurd h0 hn0
 ·rename_i s
  cases hv
  cases h1 : sz.beq 1 with
  | false => simp [h1] at hs
  | true =>
   have : sz = 1 := Nat.eq_of_beq_eq_true h1
   subst this
   simp at hs
   obtain ⟨rfl, rfl⟩ := hs
   exact ⟨_, zSs, zBq (List.all_eq_true.2 (by intro v hv; obtain ⟨b, _, rfl⟩ := List.mem_map.1 hv; rfl))⟩
 ·rename_i z p n g cc
  obtain ⟨b, off, cap, a', y, rfl, hl, hnc, hmm, ha, h1, h2⟩ := hv.tree_inv
  simp only [] at hl h1 h2
  cases hz : z.beq sz with
  | false => simp [hz] at hs
  | true =>
   have hz := Nat.eq_of_beq_eq_true hz
   subst hz
   simp at hs
   obtain ⟨rfl, rfl⟩ := hs
   rcases ha with rfl | ⟨rfl, _⟩
   ·obtain ⟨l, hlen, hsub, hcl⟩ := zOr (m := 0) (k := cc.length) h1 h2 (by simp)
    rw [List.drop_zero, List.take_length] at hsub
    refine ⟨l, zGq (by rw [hlen, hl]) (fun j v hj => ?_), hsub⟩
    have := h.fzc (hcl j v hj)
    rwa [Nat.add_zero] at this
   ·have : cc = [] := List.eq_nil_of_length_eq_zero (by rw [hl, Nat.zero_mul])
    subst this
    exact ⟨[], zJu, .nil⟩
 ·cases hs
theorem Src.all {P : Program} {w : World} {sz : Nat} {v : Value} {m : Nat} {cs : List Value} (h : Src P w sz v m cs) (w' : World) (hw : w'.heap = w.heap) : (Builtin.firstCells sz m v).run P w' = .ok cs.toArray w' := by
 have := h.first w' m hw (Nat.le_refl _)
 rwa [List.take_of_length_le (by rw [h.size]; exact Nat.le_refl _)] at this
theorem zHw {P : Program} {w : World} (sT xT ty e : TypeId) (d : TypeDesc) (i : TypeInfo) (z : Value) (ht : P.underlying sT = some (.slice e)) (hx : P.underlying xT = some d) (hd : ∀ k, d ≠ .int k) (hi : P.info? e = some i) (hz : i.zero = some z)
  {sb : Option Addr} {sLen sCap : Nat} {olds : List Value} {x : Value} {n : Nat} {news : List Value} (ho : Src P w i.size (.slice sb sLen sCap) sLen olds) (hn : Src P w i.size x n news)
  (hg : sCap < sLen + n) (hbytes : (sLen + n) * i.bytes ≤ 140737488355328) (h63 : sLen + n ≤ 9223372036854775807) :
  (Builtin.append_ #[sT, xT] ty #[.slice sb sLen sCap, x]).run P w =
   .ok (.slice (some ⟨w.heap.size, 0, none⟩) (sLen + n) (grownCap w (sLen + n) sCap e))
    (w.drew.alloc (.cells (olds.toArray ++ news.toArray ++ Builtin.zeroCells z.cells (grownCap w (sLen + n) sCap e - (sLen + n))) e)) := by
 have hn' : ¬ (sLen + n ≤ sCap) := by omega
 have h63' : ¬ (9223372036854775807 < ((sLen : Int) + (n : Int))) := by omega
 have h48' : ¬ (281474976710656 < Builtin.nextslicecap (sLen + n) sCap * i.bytes) := by have := growslice_fits (bytes := i.bytes) hg hbytes; omega
 have f1 := ho.all w.drew rfl
 have f2 := hn.all w.drew rfl
 have f3 := hn.len w
 have hm : ∀ w' : World, ((match d with | .int _ => true | _ => false) : Bool) = false := fun _ => by cases d <;> first | rfl | exact absurd rfl (hd _)
 have hm' := hm w
 simp [Builtin.append_, run_underlying ht, run_underlying hx, sizeOf, typeInfo, zeroValue, hi, hz, hn', h63', h48', Question.forced, f1, f2, f3, newRow, grownCap]
 congr 2
 apply Array.ext'
 simp
theorem zEq {P : Program} {w : World} (sT xT ty e : TypeId) (d : TypeDesc) (i : TypeInfo) (ht : P.underlying sT = some (.slice e)) (hx : P.underlying xT = some d) (hd : ∀ k, d ≠ .int k) (hi : P.info? e = some i)
  {b o sLen sCap : Nat} {x : Value} {n : Nat} {news : List Value} (hn : Src P w i.size x n news) (hg : sLen + n ≤ sCap)
  (hc : ∀ j, j < news.length → (w.cell? ⟨b, o + sLen * i.size + j, none⟩).isSome = true) (hf : ∀ j, j < news.length → w.frozen? ⟨b, o + sLen * i.size + j, none⟩ = false) (h1 : ∀ u ∈ news, u.oneCell' = true) :
  (Builtin.append_ #[sT, xT] ty #[.slice (some ⟨b, o, none⟩) sLen sCap, x]).run P w = .ok (.slice (some ⟨b, o, none⟩) (sLen + n) sCap) (w.setCells b (o + sLen * i.size) news) := by
 have f2 := hn.all w rfl
 have f3 := hn.len w
 have hm' : ((match d with | .int _ => true | _ => false) : Bool) = false := by cases d <;> first | rfl | exact absurd rfl (hd _)
 have hst := run_storeCells_cells (P := P) b (o + sLen * i.size) news 0 w (by simpa using hc) (by simpa using hf) h1
 simp only [Nat.add_zero] at hst
 simp [Builtin.append_, run_underlying ht, run_underlying hx, sizeOf, typeInfo, hi, hg, f2, f3, zAi, hst]
theorem zHx {P : Program} {w : World} (sT xT ty e : TypeId) (d : TypeDesc) (i : TypeInfo) (ht : P.underlying sT = some (.slice e)) (hx : P.underlying xT = some d) (hd : ∀ k, d ≠ .int k) (hi : P.info? e = some i)
  {a : Option Addr} {sLen sCap : Nat} {x : Value} {news : List Value} (hn : Src P w i.size x 0 news) (hg : sLen ≤ sCap) :
  (Builtin.append_ #[sT, xT] ty #[.slice a sLen sCap, x]).run P w = .ok (.slice a sLen sCap) w := by
 have hnil : news = [] := List.eq_nil_of_length_eq_zero (by rw [hn.size]; simp)
 subst hnil
 have f2 := hn.all w rfl
 have f3 := hn.len w
 have hm' : ((match d with | .int _ => true | _ => false) : Bool) = false := by cases d <;> first | rfl | exact absurd rfl (hd _)
 cases a <;> simp [Builtin.append_, run_underlying ht, run_underlying hx, sizeOf, typeInfo, hi, hg, f2, f3, storeCells]
def notInt (P : Program) (t : TypeId) : Bool := match P.underlying t with | some (.int _) => false | some _ => true | none => false
theorem zPc {P : Program} {t : TypeId} (h : notInt P t = true) : ∃ d, P.underlying t = some d ∧ ∀ k, d ≠ .int k := by
 unfold notInt at h
 split at h
 ·cases h
 ·rename_i d hn hu; exact ⟨d, hu, fun k e => hn k (by rw [← e])⟩
 ·cases h
theorem cap_sum {a m g : Nat} (s : Nat) (h : a + m ≤ g) : a * s + m * s + (g - (a + m)) * s = g * s := by
 rw [← Nat.add_mul, ← Nat.add_mul, Nat.add_sub_cancel' h]
theorem zNr {P : Program} {e : TypeId} {i : TypeInfo} {z : Value} (hi : P.info? e = some i) (hz : i.zero = some z) (n : Nat) : restOK P e (Builtin.zeroCells z.cells n).toList := fun _ i' z' h1 h2 h3 v hv => by
 rw [hi] at h1; cases h1
 rw [hz] at h2; cases h2
 unfold Builtin.zeroCells at hv
 rw [h3] at hv
 simp only [Array.toList_map, Array.toList_range, List.mem_map, List.mem_range] at hv
 obtain ⟨m, _, rfl⟩ := hv
 exact ⟨0, by simp [Nat.mod_one]⟩
theorem zHa {P : Program} {E : Env} {G : Gh} {nn : Nat} {w : World} (h : HR P E G w) {sT xT ty e : TypeId} {d : TypeDesc} {i : TypeInfo} {z : Value} (ht : P.underlying sT = some (.slice e)) (hx : P.underlying xT = some d) (hd : ∀ k, d ≠ .int k) (hi : P.info? e = some i) (hz : i.zero = some z) (hzs : z.cells.size = i.size)
  {sb : Option Addr} {sLen sCap : Nat} {olds olds' : List Value} {x : Value} {n : Nat} {news news' : List Value} (ho : Src P w i.size (.slice sb sLen sCap) sLen olds') (hn : Src P w i.size x n news') (vo : VL E olds olds') (vn : VL E news news')
  (hg : sCap < sLen + n) (hbytes : (sLen + n) * i.bytes ≤ 140737488355328) (h63 : sLen + n ≤ 9223372036854775807) {r : Result Next} (hr : r = ((Builtin.append_ #[sT, xT] ty #[.slice sb sLen sCap, x]).run P w).andThen fun v w' => .ok (.value v) w') :
  Sound1 P E G nn w r (zBo nn (olds ++ news) e (.slice (some ⟨nn, 0, none⟩) (sLen + n) U)) := by
 rw [zHw sT xT ty e d i z ht hx hd hi hz ho hn hg hbytes h63] at hr
 simp only [Result.andThen_ok] at hr
 have hcap : sLen + n ≤ grownCap w (sLen + n) sCap e := grownCap_ge w _ _ _
 have hcm : grownCap w (sLen + n) sCap e ≤ maxLen := grownCap_le_maxLen w _ _ _ (by unfold maxLen; omega)
 have l1 := vo.length
 have l2 := vn.length
 have l3 := ho.size
 have l4 := hn.size
 have hsz : (olds'.toArray ++ news'.toArray ++ Builtin.zeroCells z.cells (grownCap w (sLen + n) sCap e - (sLen + n))).size = grownCap w (sLen + n) sCap e * i.size := by
  simp only [Array.size_append, List.size_toArray, size_zeroCells, hzs, l3, l4, ← Nat.add_mul]
  congr 1; omega
 refine Sound1.newD h (.inr rfl) _ _ _ i.size hr (fun hfr => zPe (w := w.drew) hfr (0, 0) (.inl rfl) (by simp [hi]) ?_ ?_ ?_) ?_
 ·simp only [List.length_append, Array.size_append, List.size_toArray]; omega
 ·have : (olds ++ news).length = (olds' ++ news').length := by simp [l1, l2]
  rw [this]
  simp only [Array.toList_append]
  rw [List.take_left']
  ·exact vo.append vn
  ·simp
 ·have e1 : (olds ++ news).length = (olds' ++ news').length := by simp [l1, l2]
  have e2 : (olds' ++ news').length = (sLen + n) * i.size := by rw [List.length_append, l3, l4, Nat.add_mul]
  rw [e1]
  simp only [Array.toList_append]
  rw [List.drop_left']
  ·exact zNr hi hz _
  ·simp
 ·rw [hsz]; exact zHl hcap hcm rfl
def roomy (G : Gh) (b at_ : Nat) (news : List Value) (e : TypeId) (sz : Nat) : Bool :=
 match G b with
 | some (.cells cc e') => (at_ + news.length).ble cc.length && oneL news && e'.beq e && Nat.blt 0 sz
 | _ => false
def zEf (P : Program) (sT xT : TypeId) (s x : Value) (G : Gh) (n : Nat) : ORes :=
 match P.underlying sT with
 | some (.slice e) =>
  bif notInt P xT then
   match P.info? e with
   | some i =>
    bif i.size.beq 0 then .bad "append: no size" else
    match i.zero with
    | some z =>
     bif z.cells.size.beq i.size then
      match zAk G i.size x with
      | some (m, news) =>
       match s with
       | .slice none l c =>
        bif l.beq 0 && c.beq 0 then
         (bif m.beq 0 then .val s [] 0 else
          bif decide (m * i.bytes ≤ 140737488355328) && decide (m ≤ 9223372036854775807) then zBo n news e (.slice (some ⟨n, 0, none⟩) m U) else .bad "append: size")
        else .bad "append: nil"
       | .slice (some ⟨b, o, none⟩) l c =>
        bif m.beq 0 then (bif c.beq U || l.ble c then .val s [] 0 else .bad "append: cap") else
        bif c.beq U && roomy G b (o + l * i.size) news e i.size then
         (match G b with
         | some (.cells cc e') => .val (.slice (some ⟨b, o, none⟩) (l + m) U) [(b, some (.cells (cc.take (o + l * i.size) ++ news ++ cc.drop (o + l * i.size + news.length)) e'))] 0
         | _ => .bad "append: no block")
        else bif c.beq U then
         (match G b with
         | some (.cells cc e') =>
          bif o.beq 0 && e'.beq e && (l * i.size).ble cc.length && oneL news && decide ((l + m) * i.bytes ≤ 140737488355328) && decide (l + m ≤ 9223372036854775807) then
           .val (.slice (some ⟨n, 0, none⟩) (l + m) U) [(b, none), (n, some (.cells (cc.take (l * i.size) ++ news) e))] 1
          else .bad "append: not known"
         | _ => .bad "append: no block")
        else bif (l + m).ble c then
         (match G b with
         | some (.cells cc e') =>
          bif (o + l * i.size + news.length).ble cc.length && oneL news then
           .val (.slice (some ⟨b, o, none⟩) (l + m) c) [(b, some (.cells (cc.take (o + l * i.size) ++ news ++ cc.drop (o + l * i.size + news.length)) e'))] 0
          else .bad "append: no room"
         | _ => .bad "append: no block")
        else
         (match zAk G i.size s with
         | some (l', olds) => bif l'.beq l && decide ((l + m) * i.bytes ≤ 140737488355328) && decide (l + m ≤ 9223372036854775807) then zBo n (olds ++ news) e (.slice (some ⟨n, 0, none⟩) (l + m) U) else .bad "append: size"
         | none => .bad "append: olds")
       | _ => .bad "append: no slice"
      | none => .bad "append: source"
     else .bad "append: zero's size"
    | none => .bad "append: no zero"
   | none => .bad "append: no type"
  else .bad "append: of make"
 | _ => .bad "append"
theorem HR.move {P : Program} {E : Env} {G : Gh} {w w' : World} (h : HR P E G w) {m : Nat} (hm : ¬ E.dom m) {b : Nat} {o : AObj} (hg : G b = some o) (hw : w'.os = w.os ∧ w'.tape = w.tape ∧ w'.output = w.output ∧ w'.heap.size = w.heap.size)
  (hb : ∀ k, k ≠ E.ρ b → w'.heap[k]? = w.heap[k]?) {o' : AObj} (ho : OR P (E.push m (E.ρ b) (E.tot b) (E.sz b)) w' m o') (hno : ¬ o.isWin := by exact fun x => x) :
  HR P (E.push m (E.ρ b) (E.tot b) (E.sz b)) (gset (gset G b none) m (some o')) w' ∧ Stp E (E.push m (E.ρ b) (E.tot b) (E.sz b)) [b] w w' := by
 have hl := h.live (id := b) (by rw [hg]; simp)
 have hx := Env.push_ext hm (E.ρ b) (E.tot b) (E.sz b)
 have hnr : ¬ E.ro b := fun x => hno (h.ro b o hg x)
 have key : ∀ k, k ≠ m → gset (gset G b none) m (some o') k ≠ none → k ≠ b ∧ G k ≠ none := fun k hk hn => by
  have hn : (if k = m then some o' else if k = b then none else G k) ≠ none := hn
  rw [if_neg hk] at hn
  by_cases hkb : k = b
  ·rw [if_pos hkb] at hn; exact absurd rfl hn
  ·rw [if_neg hkb] at hn; exact ⟨hkb, hn⟩
 refine ⟨⟨fun k hk => ?_, fun k hk => ?_, fun k x hx' => ?_, fun i j hi hj hro e => ?_, fun k x hx' hr => ?_, fun c ob hf => ?_, fun k hk hr => ?_, by rw [hw.2.2.2]; exact h.pos⟩, ⟨hx, hw.1, hw.2.1, hw.2.2.1, Nat.le_of_eq hw.2.2.2.symm, fun k _ hk => hb k (fun e => hk b (by simp) hl hnr e.symm), fun k h1 h2 => ?_, fun _ _ h => .inl h⟩⟩
 ·rw [hw.2.2.2]
  rcases hk with h1 | h1
  ·subst h1; rw [Env.push_ρ]; exact h.lt b hl
  ·rw [hx.ρ k h1]; exact h.lt k h1
 ·show (if _ then _ else if _ then _ else _) = none
  rw [if_neg (fun e => hk (.inl e))]
  split
  ·rfl
  ·exact h.dom k (fun e => hk (.inr e))
 ·by_cases hk : k = m
  ·subst hk
   have : some o' = some x := by have := hx'; simp only [gset, if_true] at this; exact this
   cases this; exact ho
  ·obtain ⟨hkb, hn⟩ := key k hk (by rw [hx']; simp)
   have hx2 : (if k = m then some o' else if k = b then none else G k) = some x := hx'
   rw [if_neg hk, if_neg hkb] at hx2
   have hkl := h.live hn
   exact (h.obj k x hx2).mono hx hkl (hb _ (fun e => hkb (h.inj k b hn (by rw [hg]; simp) (.inr hnr) e)))
 ·by_cases hie : i = m <;> by_cases hje : j = m
  ·rw [hie, hje]
  ·obtain ⟨hjb, hjn⟩ := key j hje hj
   have hjl := h.live hjn
   rw [hie, Env.push_ρ, hx.ρ j hjl] at e
   exact absurd (h.inj j b hjn (by rw [hg]; simp) (.inr hnr) e.symm) hjb
  ·obtain ⟨hib, hin⟩ := key i hie hi
   have hil := h.live hin
   rw [hje, Env.push_ρ, hx.ρ i hil] at e
   exact absurd (h.inj i b hin (by rw [hg]; simp) (.inr hnr) e) hib
  ·obtain ⟨_, hin⟩ := key i hie hi
   obtain ⟨_, hjn⟩ := key j hje hj
   rw [hx.ρ i (h.live hin), hx.ρ j (h.live hjn)] at e
   exact h.inj i j hin hjn (hro.imp (fun x y => x ((hx.ro i (h.live hin)).2 y)) (fun x y => x ((hx.ro j (h.live hjn)).2 y))) e
 ·have hkm : k ≠ m := hr.1
  have hx2 : (if k = m then some o' else if k = b then none else G k) = some x := hx'
  rw [if_neg hkm] at hx2
  by_cases hkb : k = b
  ·rw [if_pos hkb] at hx2; cases hx2
  ·rw [if_neg hkb] at hx2; exact h.ro k x hx2 hr.2
 ·rw [hb c (fun e => ?_)]
  ·exact h.fz c ob hf
  ·have hf : E.fz c = some ob := hf
   rw [e, h.fn b (by rw [hg]; simp) hnr] at hf; cases hf
 ·by_cases hkm : k = m
  ·rw [hkm, Env.push_ρ]; exact h.fn b (by rw [hg]; simp) hnr
  ·obtain ⟨hkb, hn⟩ := key k hkm hk
   have hkl := h.live hn
   rw [hx.ρ k hkl]
   exact h.fn k hn (fun x => hr ⟨hkm, x⟩)
 ·rcases h2 with h2 | h2
  ·subst h2; exact ⟨Env.push_ro _ _ _ _ _, .inr ⟨b, by simp, hl, hnr, Env.push_ρ _ _ _ _ _⟩⟩
  ·exact absurd h2 h1
theorem HR.newKill {P : Program} {E : Env} {G : Gh} {w w1 : World} (h : HR P E G w) {m : Nat} (hm : ¬ E.dom m) {b : Nat} (hg : G b ≠ none) (ob : Obj) (o : AObj) (t s : Nat) (ho : OR P (E.push m w.heap.size t s) (w.drew.alloc ob) m o) (hw : w1 = w.drew.alloc ob) :
  HR P (E.push m w.heap.size t s) (gset (gset G b none) m (some o)) w1 ∧ Stp E (E.push m w.heap.size t s) [b, m] w w1 := by
 subst hw
 obtain ⟨h1, h2⟩ := h.drew.new hm ob o t s ho
 have hl := h.live hg
 refine ⟨h1.sub (fun k x hx => ?_), Stp.sub (W := []) ⟨h2.ext, h2.os, h2.tape, h2.output, h2.size, h2.block, h2.fresh, h2.fz⟩ (fun x hx => by cases hx)⟩
 have hx : (if k = m then some o else if k = b then none else G k) = some x := hx
 show (if k = m then some o else G k) = some x
 by_cases hk : k = m
 ·rw [if_pos hk] at hx ⊢; exact hx
 ·rw [if_neg hk] at hx ⊢
  by_cases hkb : k = b
  ·rw [if_pos hkb] at hx; cases hx
  ·rwa [if_neg hkb] at hx
theorem zRo {P : Program} {E : Env} {G : Gh} {nn : Nat} {w : World} (h : HR P E G w) (sT xT ty : TypeId) {s s' x x' : Value} (hs : VR E s s') (hx : VR E x x') :
  Sound1 P E G nn w (((Builtin.append_ #[sT, xT] ty #[s', x']).run P w).andThen fun v w' => .ok (.value v) w') (zEf P sT xT s x G nn) := by
 unfold zEf
 split
 ·rename_i e ht
  cases hni : notInt P xT with
  | false => trivial
  | true =>
   obtain ⟨d, hxd, hd⟩ := zPc hni
   simp only [cond_true]
   cases hi : P.info? e with
   | none => trivial
   | some i =>
    simp only []
    cases hsz : i.size.beq 0 with
    | true => trivial
    | false =>
     simp only [cond_false]
     cases hz : i.zero with
     | none => trivial
     | some z =>
      simp only []
      cases hzs : z.cells.size.beq i.size with
      | false => trivial
      | true =>
       have hzs : z.cells.size = i.size := Nat.eq_of_beq_eq_true hzs
       simp only [cond_true]
       cases hsrc : zAk G i.size x with
       | none => trivial
       | some mn =>
        obtain ⟨m, news⟩ := mn
        obtain ⟨news', hn, vn⟩ := zDy h hx hsrc
        simp only []
        split
        ·rename_i l c
         cases hs
         cases hl : (l.beq 0 && c.beq 0) with
         | false => trivial
         | true =>
          simp only [Bool.and_eq_true] at hl
          have hl0 : l = 0 := Nat.eq_of_beq_eq_true hl.1
          have hc0 : c = 0 := Nat.eq_of_beq_eq_true hl.2
          subst hl0; subst hc0
          simp only [cond_true]
          cases hm : m.beq 0 with
          | true =>
           have hm : m = 0 := Nat.eq_of_beq_eq_true hm
           subst hm
           refine Sound1.pure h (v' := .slice none 0 0) ?_ (.snil _ _)
           rw [zHx sT xT ty e d i ht hxd hd hi hn (Nat.le_refl _)]; rfl
          | false =>
           have hm0 : m ≠ 0 := fun e => by rw [e] at hm; simp at hm
           simp only [cond_false]
           cases hb : (decide (m * i.bytes ≤ 140737488355328) && decide (m ≤ 9223372036854775807)) with
           | false => trivial
           | true =>
            simp only [Bool.and_eq_true, decide_eq_true_eq] at hb
            have := zHa (nn := nn) h ht hxd hd hi hz hzs (zJu (a := none) (c := 0)) hn .nil vn (by omega) (by rw [Nat.zero_add]; exact hb.1) (by omega) rfl (ty := ty) (sT := sT)
            simpa using this
        ·rename_i b o l c
         obtain ⟨hbn, hsinv⟩ := hs.slice_inv
         cases hm : m.beq 0 with
         | true =>
          have hm : m = 0 := Nat.eq_of_beq_eq_true hm
          subst hm
          simp only [cond_true]
          cases hc : (c.beq U || l.ble c) with
          | false => trivial
          | true =>
           simp only [cond_true]
           have fin : ∀ (a : Option Addr) (c' : Nat), l ≤ c' → s' = .slice a l c' → Sound1 P E G nn w (((Builtin.append_ #[sT, xT] ty #[s', x']).run P w).andThen fun v w' => .ok (.value v) w') (.val (.slice (some ⟨b, o, none⟩) l c) [] 0) := by
            intro a c' hlc he
            refine Sound1.pure h (v' := s') ?_ hs
            rw [he, zHx sT xT ty e d i ht hxd hd hi hn hlc]; rfl
           rcases hsinv with ⟨hcU, rfl⟩ | ⟨_, c', rfl, h1, _, _⟩ | ⟨rfl, _, o', _, rfl⟩
           ·refine fin _ _ ?_ rfl
            have hcb : c.beq U = false := by cases hb : c.beq U; rfl; exact absurd (Nat.eq_of_beq_eq_true hb) hcU
            rw [hcb, Bool.false_or] at hc
            exact Nat.le_of_ble_eq_true hc
           ·exact fin _ _ h1 rfl
           ·exact fin _ _ (Nat.le_refl _) rfl
         | false =>
          have hm0 : m ≠ 0 := fun e => by rw [e] at hm; simp at hm
          simp only [cond_false]
          cases hro : (c.beq U && roomy G b (o + l * i.size) news e i.size) with
          | true =>
           simp only [Bool.and_eq_true] at hro
           have hcU : c = U := Nat.eq_of_beq_eq_true hro.1
           subst hcU
           simp only [cond_true]
           have hrm := hro.2
           unfold roomy at hrm
           cases hg : G b with
           | none => rw [hg] at hrm; cases hrm
           | some ob =>
            rw [hg] at hrm
            cases ob <;> first | exact True.intro | skip
            rename_i cc e'
            simp only [Bool.and_eq_true] at hrm
            obtain ⟨⟨⟨r1, r2⟩, r3⟩, r4⟩ := hrm
            have hfit : o + l * i.size + news.length ≤ cc.length := Nat.le_of_ble_eq_true r1
            have hee : e' = e := Nat.eq_of_beq_eq_true r3
            have hpos : 0 < i.size := Nat.le_of_ble_eq_true r4
            subst hee
            have hor := h.obj b _ hg
            obtain ⟨arr, fr, q1, q2, q3, q4, q5, q6, q7, q8⟩ := id hor
            simp only [q7, Nat.zero_add] at hsinv
            have hsz : i.size = E.sz b := by simpa [hi] using q4
            have l2 := vn.length
            have l4 := hn.size
            rcases hsinv with ⟨hne, _⟩ | ⟨_, c', rfl, h1, h2, h3⟩ | ⟨rfl, hc0, _⟩
            ·exact absurd rfl hne
            ·have hroom : l + m ≤ c' := by
              have q : (l + m) * i.size ≤ c' * i.size := by
               rw [Nat.add_mul]
               have : c' * i.size = E.tot b - o := by rw [hsz]; omega
               omega
              exact Nat.le_of_mul_le_mul_right q hpos
             rw [zEq sT xT ty e' d i ht hxd hd hi (b := E.ρ b) (o := o) hn hroom
              (fun j hj => by obtain ⟨v', z1, _⟩ := zAt hor (o + l * i.size + j) _ (List.getElem?_eq_getElem (by omega)); rw [z1]; rfl)
              (fun j hj => by obtain ⟨v', _, z2, _⟩ := zAt hor (o + l * i.size + j) _ (List.getElem?_eq_getElem (by omega)); exact z2)
              (fun u hu => by have := vn.one; rw [r2] at this; exact List.all_eq_true.1 this u hu)]
             obtain ⟨t1, t2, t3, t4⟩ := zBa (E.ρ b) news' (o + l * i.size) w
             obtain ⟨k1, k2⟩ := h.put hg ⟨t1, t2, t3, t4⟩ (fun k hk => zAu _ _ _ _ _ hk) (zGj hor (o := o + l * i.size) vn hfit)
             exact fun _ => ⟨_, _, E, rfl, .inl ⟨_, rfl, .su0 q7 hbn hroom h2 h3⟩, dom0, k1, k2, fun u hu hl => by simp at hu; subst hu; rw [hg]; simp⟩
            ·exfalso
             rcases hc0 with ⟨_, h0⟩ | h0
             ·have : 1 ≤ m := by omega
              have : 1 * i.size ≤ m * i.size := Nat.mul_le_mul_right _ this
              omega
             ·simp [U] at h0
          | false =>
          simp only [cond_false]
          cases hcU : c.beq U with
          | true =>
           have hcU : c = U := Nat.eq_of_beq_eq_true hcU
           subst hcU
           simp only [cond_true]
           cases hg : G b with
           | none => trivial
           | some ob =>
            cases ob <;> first | exact True.intro | skip
            rename_i cc e'
            simp only []
            cases hb : (o.beq 0 && e'.beq e && (l * i.size).ble cc.length && oneL news && decide ((l + m) * i.bytes ≤ 140737488355328) && decide (l + m ≤ 9223372036854775807)) with
            | false => trivial
            | true =>
             simp only [Bool.and_eq_true, decide_eq_true_eq] at hb
             obtain ⟨⟨⟨⟨⟨b1, b2⟩, b3⟩, b4⟩, b5⟩, b6⟩ := hb
             have ho : o = 0 := Nat.eq_of_beq_eq_true b1
             have he : e' = e := Nat.eq_of_beq_eq_true b2
             have hlc : l * i.size ≤ cc.length := Nat.le_of_ble_eq_true b3
             subst ho; subst he
             simp only [cond_true]
             have hor := h.obj b _ hg
             have hgn : G b ≠ none := by rw [hg]; simp
             have growth : ∀ (a : Option Addr) (c' : Nat) (olds' : List Value), c' < l + m → s' = .slice a l c' → Src P w i.size s' l olds' → VL E (cc.take (l * i.size)) olds' →
               Sound1 P E G nn w (((Builtin.append_ #[sT, xT] ty #[s', x']).run P w).andThen fun v w' => .ok (.value v) w') (.val (.slice (some ⟨nn, 0, none⟩) (l + m) U) [(b, none), (nn, some (.cells (cc.take (l * i.size) ++ news) e'))] 1) := by
              intro a c' olds' hcl hse hos vo
              subst hse
              rw [zHw sT xT ty e' d i z ht hxd hd hi hz hos hn hcl b5 b6]
              have hcap : l + m ≤ grownCap w (l + m) c' e' := grownCap_ge w _ _ _
              have hcm : grownCap w (l + m) c' e' ≤ maxLen := grownCap_le_maxLen w _ _ _ (by unfold maxLen; omega)
              have l1 := vo.length
              have l2 := vn.length
              have l3 := hos.size
              have l4 := hn.size
              have hsz : (olds'.toArray ++ news'.toArray ++ Builtin.zeroCells z.cells (grownCap w (l + m) c' e' - (l + m))).size = grownCap w (l + m) c' e' * i.size := by
               simp only [Array.size_append, List.size_toArray, size_zeroCells, hzs, l3, l4]
               exact cap_sum i.size hcap
              refine fun hk => ?_
              have hfr := hk (by omega)
              have hor' : OR P (E.push nn w.heap.size (olds'.toArray ++ news'.toArray ++ Builtin.zeroCells z.cells (grownCap w (l + m) c' e' - (l + m))).size i.size) (w.drew.alloc (.cells (olds'.toArray ++ news'.toArray ++ Builtin.zeroCells z.cells (grownCap w (l + m) c' e' - (l + m))) e')) nn (.cells (cc.take (l * i.size) ++ news) e') := by
               refine zPe (w := w.drew) hfr (0, 0) (.inl rfl) (by simp [hi]) ?_ ?_ ?_
               ·simp only [List.length_append, Array.size_append, List.size_toArray]; omega
               ·have : (cc.take (l * i.size) ++ news).length = (olds' ++ news').length := by simp only [List.length_append]; omega
                rw [this]
                simp only [Array.toList_append]
                rw [List.take_left']
                ·exact vo.append vn
                ·simp
               ·have e1 : (cc.take (l * i.size) ++ news).length = (olds' ++ news').length := by simp only [List.length_append]; omega
                have e2 : (olds' ++ news').length = (l + m) * i.size := by rw [List.length_append, l3, l4, Nat.add_mul]
                rw [e1]
                simp only [Array.toList_append]
                rw [List.drop_left']
                ·exact zNr hi hz _
                ·simp
              obtain ⟨k1, k2⟩ := h.newKill hfr hgn _ _ _ _ hor' rfl
              refine ⟨_, _, _, rfl, .inl ⟨_, rfl, ?_⟩, dom1, k1, k2, fun u hu hl => ?_⟩
              ·rw [hsz]; exact zHl hcap hcm rfl
              ·simp at hu; rcases hu with rfl | rfl
               ·exact hgn
               ·exact absurd hl hfr
             obtain ⟨arr, fr, q1, q2, q3, q4, q5, q6, q7, q8⟩ := id hor
             simp only [q7, Nat.zero_add] at hsinv
             have hsz : i.size = E.sz b := by simpa [hi] using q4
             have vo : VL E (cc.take (l * i.size)) (arr.toList.take (l * i.size)) := by
              have := q6.take (l * i.size)
              rwa [List.take_take, Nat.min_eq_left hlc] at this
             rcases hsinv with ⟨hne, _⟩ | ⟨_, c', rfl, h1, h2, h3⟩ | ⟨rfl, _, o', _, rfl⟩
             ·exact absurd rfl hne
             ·have hos : Src P w i.size (.slice (some ⟨E.ρ b, 0, none⟩) l c') l (arr.toList.take (l * i.size)) := by
               refine zGq (by simp; omega) (fun j v hj => ?_)
               have hj' : j < l * i.size := by have := (List.getElem?_eq_some_iff.1 hj).1; simp at this; omega
               rw [List.getElem?_take_of_lt hj'] at hj
               simp [World.cell?, q1]; simpa using hj
              rcases Nat.lt_or_ge c' (l + m) with hcl | hcl
              ·exact growth _ c' _ hcl rfl hos vo
              ·-- in its place
               have l2 := vn.length
               have l4 := hn.size
               have hfit : l * i.size + news'.length ≤ arr.size := by
                rw [l4, ← Nat.add_mul, q3]
                have : (l + m) * i.size ≤ c' * i.size := Nat.mul_le_mul_right _ hcl
                rw [hsz] at this ⊢; omega
               have hfz : ∀ j, j < arr.size → w.frozen? ⟨E.ρ b, j, none⟩ = false := by
                intro j hj
                simp only [World.frozen?, q1]
                obtain ⟨lo, hi2⟩ := fr
                rcases q2 with q2 | ⟨q2, _⟩
                ·cases q2; simp
                ·simp at q2 ⊢; omega
               rw [zEq sT xT ty e' d i ht hxd hd hi (b := E.ρ b) (o := 0) hn hcl
                (fun j hj => by simp only [World.cell?, q1]; simp; omega) (fun j hj => hfz _ (by omega)) (fun u hu => by have := vn.one; rw [b4] at this; exact List.all_eq_true.1 this u hu)]
               simp only [Nat.zero_add, Result.andThen_ok]
               refine fun hk => ?_
               have hfr := hk (by omega)
               obtain ⟨r1, r2, r3, r4⟩ := zBa (E.ρ b) news' (l * i.size) w
               have hheap := zDx (E.ρ b) news' (l * i.size) w arr e' fr q1 hfit
               have hor' : OR P (E.push nn (E.ρ b) (E.tot b) (E.sz b)) (w.setCells (E.ρ b) (l * i.size) news') nn (.cells (cc.take (l * i.size) ++ news) e') := by
                refine ⟨_, fr, by rw [Env.push_ρ]; exact hheap, ?_, ?_, ?_, ?_, ?_, Env.push_sh _ _ _ _ _, ?_⟩
                ·refine q2.imp (fun x => x) (fun x => ⟨?_, x.2⟩); have := x.1; simp; omega
                ·rw [Env.push_tot, ← q3]; simp; omega
                ·rw [Env.push_sz]; exact q4
                ·simp; omega
                ·refine VL.ext (Env.push_ext hfr _ _ _) ?_
                 have e1 : (cc.take (l * i.size) ++ news).length = (arr.toList.take (l * i.size) ++ news').length := by simp only [List.length_append, List.length_take, Array.length_toList]; omega
                 rw [e1]
                 have : (arr.toList.take (l * i.size) ++ news' ++ arr.toList.drop (l * i.size + news'.length)).toArray.toList = (arr.toList.take (l * i.size) ++ news') ++ arr.toList.drop (l * i.size + news'.length) := rfl
                 rw [this, List.take_left']
                 ·exact vo.append vn
                 ·rfl
                ·-- behind
                 have e1 : (cc.take (l * i.size) ++ news).length = l * i.size + news'.length := by simp only [List.length_append, List.length_take]; omega
                 rw [e1]
                 have e2 : (arr.toList.take (l * i.size) ++ news' ++ arr.toList.drop (l * i.size + news'.length)).drop (l * i.size + news'.length) = arr.toList.drop (l * i.size + news'.length) := by
                  rw [List.drop_left']
                  simp only [List.length_append, List.length_take, Array.length_toList]; omega
                 show restOK P e' ((arr.toList.take (l * i.size) ++ news' ++ arr.toList.drop (l * i.size + news'.length)).drop (l * i.size + news'.length))
                 rw [e2]
                 have hle : cc.length ≤ l * i.size + news'.length := by
                  rcases Nat.eq_zero_or_pos i.size with h0 | h0
                  ·have : arr.size = 0 := by rw [q3, ← h3, ← hsz, h0]; simp
                   omega
                  ·refine Classical.byContradiction fun hgt => ?_
                   have : (l * i.size + news.length).ble cc.length = true := Nat.ble_eq_true_of_le (by omega)
                   simp only [Nat.zero_add] at hro
                   unfold roomy at hro
                   rw [hg] at hro
                   simp only [this, b4, b2, Bool.and_true, Bool.true_and] at hro
                   have hz0 : Nat.blt 0 i.size = true := Nat.ble_eq_true_of_le h0
                   rw [hz0] at hro; cases hro
                 have := q8.drop (l * i.size + news'.length - cc.length)
                 rw [List.drop_drop] at this
                 rwa [show cc.length + (l * i.size + news'.length - cc.length) = l * i.size + news'.length by omega] at this
               obtain ⟨k1, k2⟩ := h.move hfr hg ⟨r1, r2, r3, r4⟩ (fun k hk => zAu _ _ _ _ _ hk) hor'
               refine ⟨_, _, _, rfl, .inl ⟨_, rfl, ?_⟩, dom1, k1, k2.sub (fun x hx _ => by simp at hx ⊢; exact .inl hx), fun u hu hl => ?_⟩
               ·have := VR.su (E := E.push nn (E.ρ b) (E.tot b) (E.sz b)) nn 0 (l + m) c' (Env.push_dom _ _ _ _ _) hcl h2 (by rw [Env.push_sz, Env.push_tot, Nat.zero_add]; exact h3)
                rwa [Env.push_ρ, Env.push_sh] at this
               ·simp at hu; rcases hu with rfl | rfl
                ·exact hgn
                ·exact absurd hl hfr
             ·exact growth _ 0 [] (by omega) rfl zJu (by simp; exact .nil)
          | false =>
           have hcU' : c ≠ U := fun e => by rw [e] at hcU; simp at hcU
           simp only [cond_false]
           cases hroom : (l + m).ble c with
           | true =>
            have hroom : l + m ≤ c := Nat.le_of_ble_eq_true hroom
            simp only [cond_true]
            cases hg : G b with
            | none => trivial
            | some ob =>
             cases ob <;> first | exact True.intro | skip
             rename_i cc e'
             simp only []
             cases hb : ((o + l * i.size + news.length).ble cc.length && oneL news) with
             | false => trivial
             | true =>
              simp only [Bool.and_eq_true] at hb
              have hfit : o + l * i.size + news.length ≤ cc.length := Nat.le_of_ble_eq_true hb.1
              have hor := h.obj b _ hg
              have q7 := hor.sh0
              simp only [q7, Nat.zero_add] at hsinv
              have l2 := vn.length
              rcases hsinv with ⟨_, rfl⟩ | ⟨he, _⟩ | ⟨rfl, hc0, _⟩
              ·rw [zEq sT xT ty e d i ht hxd hd hi (b := E.ρ b) (o := o) hn hroom
                (fun j hj => by obtain ⟨v', z1, _⟩ := zAt hor (o + l * i.size + j) _ (List.getElem?_eq_getElem (by omega)); rw [z1]; rfl)
                (fun j hj => by obtain ⟨v', _, z2, _⟩ := zAt hor (o + l * i.size + j) _ (List.getElem?_eq_getElem (by omega)); exact z2)
                (fun u hu => by have := vn.one; rw [hb.2] at this; exact List.all_eq_true.1 this u hu)]
               obtain ⟨r1, r2, r3, r4⟩ := zBa (E.ρ b) news' (o + l * i.size) w
               obtain ⟨k1, k2⟩ := h.put hg ⟨r1, r2, r3, r4⟩ (fun k hk => zAu _ _ _ _ _ hk) (zGj hor (o := o + l * i.size) vn hfit)
               exact fun _ => ⟨_, _, E, rfl, .inl ⟨_, rfl, .sl0 q7 hbn hcU'⟩, dom0, k1, k2, fun u hu hl => by simp at hu; subst hu; rw [hg]; simp⟩
              ·exact absurd he hcU'
              ·exfalso; rcases hc0 with hc0 | hc0
               ·exact hcU' hc0.1
               ·omega
           | false =>
            have hroom : c < l + m := by
             rcases Nat.lt_or_ge c (l + m) with h1 | h1
             ·exact h1
             ·rw [Nat.ble_eq_true_of_le h1] at hroom; cases hroom
            simp only [cond_false]
            cases hso : zAk G i.size (.slice (some ⟨b, o, none⟩) l c) with
            | none => trivial
            | some lo =>
             obtain ⟨l', olds⟩ := lo
             obtain ⟨olds', hos, vo⟩ := zDy h hs hso
             simp only []
             cases hb : (l'.beq l && decide ((l + m) * i.bytes ≤ 140737488355328) && decide (l + m ≤ 9223372036854775807)) with
             | false => trivial
             | true =>
              simp only [Bool.and_eq_true, decide_eq_true_eq] at hb
              obtain ⟨⟨b1, b2⟩, b3⟩ := hb
              have : l' = l := Nat.eq_of_beq_eq_true b1
              subst this
              rcases hsinv with ⟨_, rfl⟩ | ⟨he, _⟩ | ⟨rfl, hc0, o', _, rfl⟩
              ·exact zHa h ht hxd hd hi hz hzs hos hn vo vn hroom b2 b3 rfl
              ·exact absurd he hcU'
              ·exact zHa h ht hxd hd hi hz hzs hos hn vo vn (by omega) b2 b3 rfl
        ·trivial
 ·trivial
end Go.Proofs.Ytpdeidlkeplegaa
