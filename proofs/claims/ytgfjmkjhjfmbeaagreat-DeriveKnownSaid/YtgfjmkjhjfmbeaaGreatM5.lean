/- DERIVED. The machine M, fifth part: slices: make, slice expressions, append, copy, len. -/
import Derived.Test.YtgfjmkjhjfmbeaaGreatM4
import Derived.ArgAppend
import Derived.Laws.MakeOwn
import Derived.Laws.IdiomStrings
namespace Go.Proofs.YtgfjmkjhjfmbeaaGreat
open Go.RowKit

theorem HR.drew {P : Program} {E : Env} {G : Gh} {w : World} (h : HR P E G w) : HR P E G w.drew := ⟨h.lt, h.dom, h.obj, h.inj⟩

/-- New cells of which a part is known, behind a draw or not. -/
theorem Sound1.newD {P : Program} {E : Env} {G : Gh} {n : Nat} {w w1 : World} {r : Result Next} {v v' : Value} (h : HR P E G w) (hw : w1 = w ∨ w1 = w.drew) (ob : Obj) (o : AObj) (t s : Nat) (hr : r = .ok (.value v') (w1.alloc ob))
    (ho : ¬ E.dom n → OR P (E.push n w.heap.size t s) (w1.alloc ob) n o) (hv : VR (E.push n w.heap.size t s) v v') : Sound1 P E G n w r (.val v [(n, some o)] 1) := by
  rcases hw with rfl | rfl
  · exact Sound1.new h ob o t s hr ho hv
  · refine fun hk => ?_
    have hn := hk (by omega)
    obtain ⟨h1, h2⟩ := h.drew.new hn ob o t s (ho hn)
    exact ⟨_, _, _, hr, .inl ⟨v', rfl, hv⟩, dom1, h1, Stp.sub (W := []) ⟨h2.ext, h2.os, h2.tape, h2.output, h2.size, h2.block, h2.fresh⟩ (fun x hx => by cases hx), fun u hu hl => by simp at hu; subst hu; exact absurd hl hn⟩

theorem or_part {P : Program} {E : Env} {n : Nat} {w : World} {e : TypeId} {sz : Nat} {arr : Array Value} {c : List Value} (hn : ¬ E.dom n) (fr : Nat × Nat) (hfr : fr = (0, 0) ∨ (arr.size ≤ fr.1 ∧ P.underlying e = some (.int .u8))) (hi : (P.info? e).map (·.size) = some sz) (hl : c.length ≤ arr.size) (hv : VL E c (arr.toList.take c.length)) :
    OR P (E.push n w.heap.size arr.size sz) (w.alloc (.cells arr e fr)) n (.cells c e) := by
  refine ⟨arr, fr, ?_, hfr, ?_, ?_, hl, hv.ext (Env.push_ext hn _ _ _)⟩
  · rw [Env.push_ρ]; exact heap_alloc_new w _
  · rw [Env.push_tot]
  · rw [Env.push_sz]; exact hi

theorem slice_newU {E : Env} {m b t s n c : Nat} (h1 : n ≤ c) (h2 : c ≤ maxLen) (h3 : c * s = t) : VR (E.push m b t s) (.slice (some ⟨m, 0, none⟩) n U) (.slice (some ⟨b, 0, none⟩) n c) := by
  have := VR.su (E := E.push m b t s) m 0 n c (E.push_dom m b t s) h1 h2 (by rw [Env.push_sz, Env.push_tot]; omega)
  rwa [Env.push_ρ] at this

/-! ## make -/
def aMake (P : Program) (t : TypeId) (l c : Value) (n : Nat) : ORes :=
  match P.underlying t, l, c with
  | some (.slice e), .int _ l, .int _ c => (match P.info? e with
    | some i => (match i.zero with
      | some z => bif decide (0 ≤ l) && decide (l ≤ c) && decide ((i.bytes : Int) * c ≤ 281474976710656) && decide (c ≤ 9223372036854775807) then
          let cs := (madeCells z.cells (c.toNat * i.size)).toList
          bif plainL cs then newCells n cs e (.slice (some ⟨n, 0, none⟩) l.toNat c.toNat) else .bad "make: zero"
        else .bad "make: size"
      | none => .bad "make: no zero")
    | none => .bad "make: no type")
  | _, _, _ => .bad "make"
theorem toNat_U {c : Int} (h : c ≤ 9223372036854775807) : c.toNat ≠ U := by unfold U; omega
theorem aMake_ok {P : Program} {E : Env} {G : Gh} {n : Nat} {w : World} (h : HR P E G w) (t : TypeId) (x y : Operand) {ev : Operand → Value} {a b : Value} {o : Oper} (ho : o.op = .makeSlice t x y) (ha : VR E a (ev x)) (hb : VR E b (ev y)) :
    Sound1 P E G n w ((execOp ev o).run P w) (aMake P t a b n) := by
  unfold aMake
  split
  · rename_i e lk l ck c hu
    have hx : ev x = .int lk l := by cases hv' : ev x <;> rw [hv'] at ha <;> cases ha; rfl
    have hy : ev y = .int ck c := by cases hv' : ev y <;> rw [hv'] at hb <;> cases hb; rfl
    cases hi : P.info? e with
    | none => trivial
    | some i =>
      simp only []
      cases hz : i.zero with
      | none => trivial
      | some z =>
        simp only []
        cases hc : (decide (0 ≤ l) && decide (l ≤ c) && decide ((i.bytes : Int) * c ≤ 281474976710656) && decide (c ≤ 9223372036854775807)) with
        | false => trivial
        | true =>
          simp only [Bool.and_eq_true, decide_eq_true_eq] at hc
          simp only [cond_true]
          cases hp : plainL (madeCells z.cells (c.toNat * i.size)).toList with
          | false => trivial
          | true =>
            have hr := run_make (P := P) w t e i z hu hi hz lk ck l c hc.1.1.1 hc.1.1.2 hc.1.2 hc.2
            refine Sound1.new h (.cells (madeCells z.cells (c.toNat * i.size)) e) _ (madeCells z.cells (c.toNat * i.size)).size i.size ?_ (fun hfr => or_cells hfr (by simp [hi]) (plainL_refl hp)) (slice_new (toNat_U hc.2))
            simp [execOp, ho, hx, hy, hr]
  · trivial

/-! ## slice expressions -/
def sbound (v : Option Value) (y d : Nat) : Option Nat :=
  match v with
  | none => some d
  | some (.int _ i) => bif decide (0 ≤ i) && decide (i ≤ y) then some i.toNat else none
  | _ => none

theorem run_sbound {P : Program} {w : World} {k : IntKind} {i : Int} {y d r : Nat} (_code : Instr.sliceBound (.int k i) y = Instr.sliceBound (.int k i) y) (cd : BoundsCode) (h : sbound (some (.int k i)) y d = some r) : (Instr.sliceBound (.int k i) y cd).run P w = .ok r w := by
  simp only [sbound] at h
  cases hc : (decide (0 ≤ i) && decide (i ≤ y)) with
  | false => simp [hc] at h
  | true =>
    rw [hc] at h
    simp only [Bool.and_eq_true, decide_eq_true_eq] at hc
    simp at h; subst h
    simp [Instr.sliceBound, asIntOf, hc.1, hc.2]

theorem run_bounds {P : Program} {w : World} {isS : Bool} {len cap l h m : Nat} {lo hi mx : Option Value} (hm : sbound mx cap cap = some m) (hh : sbound hi m len = some h) (hx : mx.isSome = true → hi.isSome = true) (hl : sbound lo h 0 = some l) :
    (Instr.sliceBounds isS len cap lo hi mx).run P w = .ok (l, h, m) w := by
  have form : ∀ {v : Option Value} {y d r : Nat}, sbound v y d = some r → (v = none ∧ r = d) ∨ ∃ k i, v = some (.int k i) := by
    intro v y d r hs
    cases v with
    | none => simp [sbound] at hs; exact .inl ⟨rfl, hs.symm⟩
    | some v => cases v <;> simp [sbound] at hs; exact .inr ⟨_, _, rfl⟩
  rcases form hm with ⟨rfl, rfl⟩ | ⟨k, i, rfl⟩ <;> rcases form hh with ⟨rfl, rfl⟩ | ⟨k', i', rfl⟩ <;> rcases form hl with ⟨rfl, rfl⟩ | ⟨k'', i'', rfl⟩
  all_goals first
    | (simp at hx; done)
    | skip
  all_goals simp only [Instr.sliceBounds, Sem.run_bind, Sem.run_pure, Result.andThen_ok]
  all_goals try rw [run_sbound rfl _ hm]
  all_goals try simp only [Result.andThen_ok]
  all_goals try rw [run_sbound rfl _ hh]
  all_goals try simp only [Result.andThen_ok]
  all_goals try rw [run_sbound rfl _ hl]
  all_goals try simp only [Result.andThen_ok]

def intO (v : Option Value) : Bool := match v with | none => true | some (.int _ _) => true | _ => false

def sliceTo (b o size l h m : Nat) : Value := .slice (some ⟨b, bif m.beq l then o else o + l * size, none⟩) (h - l) (m - l)

def aSlice (P : Program) (t : TypeId) (v : Value) (lo hi mx : Option Value) (G : Gh) : ORes :=
  bif mx.isSome && !hi.isSome then .bad "slice: max" else
  match P.underlying t, v with
  | some (.slice e), .slice (some ⟨b, o, none⟩) n c => (match P.info? e with
    | some i =>
      bif c.beq U then
        (match mx with
        | none => (match sbound hi n n with
          | some h => (match sbound lo h 0 with
            | some l => (match G b with
              | some (.cells _ e') => bif e'.beq e then .val (.slice (some ⟨b, o + l * i.size, none⟩) (h - l) U) [] 0 else .bad "slice: type"
              | _ => .bad "slice: block")
            | none => .bad "slice: low")
          | none => (match G b with
            | some (.cells cc e') => bif e'.beq e && Nat.blt 0 i.size then
                (match hi, sbound hi ((cc.length - o) / i.size) n with
                | some _, some h => (match sbound lo h 0 with
                  | some l => .val (.slice (some ⟨b, o + l * i.size, none⟩) (h - l) U) [] 0
                  | none => .bad "slice: low")
                | _, _ => .bad "slice: high")
              else .bad "slice: type"
            | _ => .bad "slice: block"))
        | some mv => (match sbound (some mv) n n with
          | some m => (match sbound hi m n with
            | some h => (match sbound lo h 0 with
              | some l => bif Nat.blt (m - l) 1180591620717411303424 then .val (sliceTo b o i.size l h m) [] 0 else .bad "slice: cap"
              | none => .bad "slice: low")
            | none => .bad "slice: high")
          | none => .bad "slice: max"))
      else
        (match sbound mx c c with
        | some m => (match sbound hi m n with
          | some h => (match sbound lo h 0 with
            | some l => bif Nat.blt (m - l) 1180591620717411303424 then .val (sliceTo b o i.size l h m) [] 0 else .bad "slice: cap"
            | none => .bad "slice: low")
          | none => .bad "slice: high")
        | none => .bad "slice: max")
    | none => .bad "slice: no type")
  | some (.array n e), .pointer (some ⟨b, o, none⟩) => (match P.info? e with
    | some i => (match sbound mx n n with
      | some m => (match sbound hi m n with
        | some h => (match sbound lo h 0 with
          | some l => bif Nat.blt (m - l) 1180591620717411303424 then .val (sliceTo b o i.size l h m) [] 0 else .bad "slice: cap"
          | none => .bad "slice: low")
        | none => .bad "slice: high")
      | none => .bad "slice: max")
    | none => .bad "slice: no type")
  | _, _ => .bad "slice"

theorem VR.int_eq {E : Env} {k : IntKind} {i : Int} {v' : Value} (h : VR E (.int k i) v') : v' = .int k i := by cases h; rfl
theorem sbound_eq {E : Env} {ev ev' : Operand → Value} {x : Option Operand} {y d r : Nat} (hv : ∀ z, x = some z → VR E (ev z) (ev' z)) (h : sbound (x.map ev) y d = some r) : x.map ev' = x.map ev := by
  cases x with
  | none => rfl
  | some z =>
    have := hv z rfl
    simp only [Option.map_some] at h ⊢
    cases hz : ev z <;> rw [hz] at h this <;> simp [sbound] at h
    rw [this.int_eq]

theorem sliceTo_rel {E : Env} {b o size l h m : Nat} (hb : E.dom b) (hU : m - l ≠ U) : VR E (sliceTo b o size l h m) (.slice (some (if m = l then ⟨E.ρ b, o, none⟩ else ⟨E.ρ b, o + l * size, none⟩)) (h - l) (m - l)) := by
  unfold sliceTo
  by_cases hm : m = l
  · subst hm; simp only [Nat.beq_refl, cond_true, if_true]; exact .sl b _ _ _ hb hU
  · have : m.beq l = false := by cases hb : m.beq l; rfl; exact absurd (Nat.eq_of_beq_eq_true hb) hm
    rw [this, if_neg hm]; exact .sl b _ _ _ hb hU

theorem sbound_int {k : IntKind} {i : Int} {y d r : Nat} : sbound (some (.int k i)) y d = some r ↔ 0 ≤ i ∧ i ≤ y ∧ r = i.toNat := by
  simp only [sbound]
  by_cases h1 : 0 ≤ i <;> by_cases h2 : i ≤ y <;> simp [h1, h2, eq_comm]
theorem sbound_le {v : Option Value} {y d r : Nat} (h : sbound v y d = some r) : r = d ∧ v = none ∨ r ≤ y := by
  cases v with
  | none => simp [sbound] at h; exact .inl ⟨h.symm, rfl⟩
  | some v =>
    cases v <;> try (simp [sbound] at h; done)
    obtain ⟨h1, h2, h3⟩ := sbound_int.1 h
    right; omega
theorem sbound_mono {v : Option Value} {y y' d r : Nat} (hy : y ≤ y') (h : sbound v y d = some r) : sbound v y' d = some r := by
  cases v with
  | none => exact h
  | some v =>
    cases v <;> try (simp [sbound] at h; done)
    obtain ⟨h1, h2, h3⟩ := sbound_int.1 h
    exact sbound_int.2 ⟨h1, by omega, h3⟩

theorem VR.slice_inv {E : Env} {b o n c : Nat} {v' : Value} (h : VR E (.slice (some ⟨b, o, none⟩) n c) v') :
    E.dom b ∧ ((c ≠ U ∧ v' = .slice (some ⟨E.ρ b, o, none⟩) n c) ∨ (c = U ∧ ∃ c', v' = .slice (some ⟨E.ρ b, o, none⟩) n c' ∧ n ≤ c' ∧ c' ≤ maxLen ∧ o + c' * E.sz b = E.tot b) ∨
      (n = 0 ∧ ((c = U ∧ E.tot b ≤ o) ∨ c = 0) ∧ ∃ o', v' = .slice (some ⟨E.ρ b, o', none⟩) 0 0)) := by
  cases h with
  | sl _ _ _ _ h hc => exact ⟨h, .inl ⟨hc, rfl⟩⟩
  | su _ _ _ c' h h1 h2 h3 => exact ⟨h, .inr (.inl ⟨rfl, c', rfl, h1, h2, h3⟩)⟩
  | se _ _ o' _ h hc => exact ⟨h, .inr (.inr ⟨rfl, hc, o', rfl⟩)⟩
theorem VR.ptr_inv {E : Env} {b o : Nat} {v' : Value} (h : VR E (.pointer (some ⟨b, o, none⟩)) v') : E.dom b ∧ v' = .pointer (some ⟨E.ρ b, o, none⟩) := by
  cases h with
  | ptr _ _ h => exact ⟨h, rfl⟩

theorem aSlice_ok {P : Program} {E : Env} {G : Gh} {nn : Nat} {w : World} (h : HR P E G w) (t : TypeId) (x : Operand) (lo hi mx : Option Operand) {ev ev' : Operand → Value} {o : Oper} (ho : o.op = .slice t x lo hi mx) (hv : ∀ x ∈ o.op.operands, VR E (ev x) (ev' x)) :
    Sound1 P E G nn w ((execOp ev' o).run P w) (aSlice P t (ev x) (lo.map ev) (hi.map ev) (mx.map ev) G) := by
  have vx : VR E (ev x) (ev' x) := hv x (by rw [ho]; simp [Op.operands])
  have vlo : ∀ z, lo = some z → VR E (ev z) (ev' z) := fun z hz => hv z (by rw [ho]; simp [Op.operands, hz])
  have vhi : ∀ z, hi = some z → VR E (ev z) (ev' z) := fun z hz => hv z (by rw [ho]; simp [Op.operands, hz])
  have vmx : ∀ z, mx = some z → VR E (ev z) (ev' z) := fun z hz => hv z (by rw [ho]; simp [Op.operands, hz])
  unfold aSlice
  cases hx : ((mx.map ev).isSome && !(hi.map ev).isSome) with
  | true => trivial
  | false =>
    have hx' : (mx.map ev').isSome = true → (hi.map ev').isSome = true := by
      intro hm
      cases mx with
      | none => simp at hm
      | some m => cases hi with | none => simp at hx | some h => rfl
    simp only [cond_false]
    split
    · rename_i e b off n c hu hev
      rw [hev] at vx
      cases hi' : P.info? e with
      | none => trivial
      | some i =>
        simp only []
        cases hc : c.beq U with
        | false =>
          simp only [cond_false]
          have hcU : c ≠ U := fun e => by rw [e] at hc; simp at hc
          cases hm : sbound (mx.map ev) c c with
          | none => trivial
          | some m =>
            simp only []
            cases hh : sbound (hi.map ev) m n with
            | none => trivial
            | some hh' =>
              simp only []
              cases hl : sbound (lo.map ev) hh' 0 with
              | none => trivial
              | some l =>
                simp only []
                cases hU : Nat.blt (m - l) 1180591620717411303424 with
                | false => trivial
                | true =>
                  simp only [cond_true]
                  have e1 := sbound_eq vmx hm
                  have e2 := sbound_eq vhi hh
                  have e3 := sbound_eq vlo hl
                  have hrun := fun (w : World) (isS : Bool) => run_bounds (P := P) (w := w) (isS := isS) hm hh (by rw [← e1, ← e2]; exact hx') hl
                  rw [← e1, ← e2, ← e3] at hrun
                  obtain ⟨hb, ⟨_, vx'⟩ | ⟨he, _⟩ | ⟨hn0, hc0, o', vx'⟩⟩ := vx.slice_inv
                  · refine Sound1.pure h (v' := .slice (some (if m = l then ⟨E.ρ b, off, none⟩ else ⟨E.ρ b, off + l * i.size, none⟩)) (hh' - l) (m - l)) ?_ (sliceTo_rel hb (lt_U hU))
                    by_cases hml : m = l <;> simp [execOp, ho, vx', Instr.sliceAt, Instr.slice, run_underlying hu, hrun, sizeOf, typeInfo, hi', hml, addr_add]
                  · exact absurd he hcU
                  · subst hn0
                    have hc0 : c = 0 := hc0.resolve_left (fun x => hcU x.1)
                    subst hc0
                    have hm0 : m = 0 := by rcases sbound_le hm with h1 | h1 <;> omega
                    subst hm0
                    have hh0 : hh' = 0 := by rcases sbound_le hh with h1 | h1 <;> omega
                    subst hh0
                    have hl0 : l = 0 := by rcases sbound_le hl with h1 | h1 <;> omega
                    subst hl0
                    refine Sound1.pure h (v' := .slice (some ⟨E.ρ b, o', none⟩) 0 0) ?_ ?_
                    · simp [execOp, ho, vx', Instr.sliceAt, Instr.slice, run_underlying hu, hrun, sizeOf, typeInfo, hi']
                    · exact .se b _ _ _ hb (.inr rfl)
        | true =>
          have hcU : c = U := Nat.eq_of_beq_eq_true hc
          subst hcU
          simp only [cond_true]
          cases hmx : mx.map ev with
          | none =>
            simp only []
            cases hh : sbound (hi.map ev) n n with
            | none =>
              simp only []
              cases hg : G b with
              | none => trivial
              | some ob =>
                cases ob <;> try trivial
                rename_i cs e'
                simp only []
                cases he : (e'.beq e && Nat.blt 0 i.size) with
                | false => trivial
                | true =>
                  simp only [Bool.and_eq_true] at he
                  have he' : e' = e := Nat.eq_of_beq_eq_true he.1
                  have hpos : 0 < i.size := Nat.le_of_ble_eq_true he.2
                  subst he'
                  simp only [cond_true]
                  cases hhi : hi.map ev with
                  | none => trivial
                  | some hv =>
                    cases hh2 : sbound (some hv) ((cs.length - off) / i.size) n with
                    | none => trivial
                    | some hh' =>
                      simp only []
                      cases hl : sbound (lo.map ev) hh' 0 with
                      | none => trivial
                      | some l =>
                        simp only []
                        obtain ⟨arr, fr, p1, p2, p3, hsz, p5, p6⟩ := h.obj b _ hg
                        have hsz : i.size = E.sz b := by simpa [hi'] using hsz
                        have hmx' : mx.map ev' = none := by cases mx with | none => rfl | some z => simp at hmx
                        have hh3 : sbound (hi.map ev) ((cs.length - off) / i.size) n = some hh' := by rw [hhi]; exact hh2
                        have e2 := sbound_eq vhi hh3
                        have e3 := sbound_eq vlo hl
                        have hhk : hh' ≤ (cs.length - off) / i.size := by
                          rcases sbound_le hh2 with ⟨_, h1⟩ | h1
                          · cases h1
                          · exact h1
                        have hln : l ≤ hh' := by rcases sbound_le hl with h1 | h1 <;> omega
                        obtain ⟨hb, ⟨hcc, _⟩ | ⟨_, c', vx', h1, h2, h3⟩ | ⟨hn0, hc0, o', vx'⟩⟩ := vx.slice_inv
                        · exact absurd rfl hcc
                        · have hkc : (cs.length - off) / i.size ≤ c' := by
                            have q : (cs.length - off) / i.size * i.size ≤ cs.length - off := Nat.div_mul_le_self _ _
                            have q2 : cs.length - off ≤ c' * i.size := by rw [hsz]; omega
                            exact Nat.le_of_mul_le_mul_right (Nat.le_trans q q2) hpos
                          have hrun : ∀ (w : World) (isS : Bool), (Instr.sliceBounds isS n c' (lo.map ev') (hi.map ev') none).run P w = .ok (l, hh', c') w := fun w isS => by
                            rw [e2, e3]
                            exact run_bounds (m := c') rfl (sbound_mono hkc hh3) (by simp) hl
                          by_cases hcl : c' = l
                          · have : hh' - l = 0 := by omega
                            rw [this]
                            refine Sound1.pure h (v' := .slice (some ⟨E.ρ b, off, none⟩) 0 0) ?_ (.se b _ _ _ hb (.inl ⟨rfl, by rw [hsz, ← h3, hcl]; exact Nat.le_refl _⟩))
                            have hr := hrun w true
                            rw [hcl] at hr
                            simp [execOp, ho, vx', hmx', Instr.sliceAt, Instr.slice, run_underlying hu, hr, sizeOf, typeInfo, hi', hcl, this]
                          · refine Sound1.pure h (v' := .slice (some ⟨E.ρ b, off + l * i.size, none⟩) (hh' - l) (c' - l)) ?_ ?_
                            · simp [execOp, ho, vx', hmx', Instr.sliceAt, Instr.slice, run_underlying hu, hrun, sizeOf, typeInfo, hi', hcl, addr_add]
                            · refine .su b _ _ _ hb (by omega) (by omega) ?_
                              rw [hsz]
                              have hlc : l ≤ c' := by omega
                              have e5 : l * E.sz b + (c' - l) * E.sz b = c' * E.sz b := by rw [← Nat.add_mul, Nat.add_sub_cancel' hlc]
                              rw [Nat.add_assoc, e5]; exact h3
                        · subst hn0
                          have hz : sbound (some hv) 0 0 = none := by rw [← hhi]; exact hh
                          have hk1 : 1 ≤ hh' := by
                            rcases Nat.eq_zero_or_pos hh' with h0 | h0
                            · subst h0
                              cases hv with
                              | int k i =>
                                obtain ⟨a1, a2, a3⟩ := sbound_int.1 hh2
                                have : sbound (some (.int k i)) 0 0 = some 0 := sbound_int.2 ⟨a1, by omega, a3⟩
                                rw [this] at hz; cases hz
                              | _ => simp [sbound] at hh2
                            · exact h0
                          have hgt : off < cs.length := by
                            rcases Nat.lt_or_ge off cs.length with h0 | h0
                            · exact h0
                            · rw [Nat.sub_eq_zero_of_le h0, Nat.zero_div] at hhk; omega
                          rcases hc0 with ⟨_, h0⟩ | h0
                          · omega
                          · simp [U] at h0
            | some hh' =>
              simp only []
              cases hl : sbound (lo.map ev) hh' 0 with
              | none => trivial
              | some l =>
                simp only []
                cases hg : G b with
                | none => trivial
                | some ob =>
                  cases ob <;> try trivial
                  rename_i cs e'
                  simp only []
                  cases he : e'.beq e with
                  | false => trivial
                  | true =>
                    have he' : e' = e := Nat.eq_of_beq_eq_true he
                    subst he'
                    simp only [cond_true]
                    have hmx' : mx.map ev' = none := by cases mx with | none => rfl | some z => simp at hmx
                    have e2 := sbound_eq vhi hh
                    have e3 := sbound_eq vlo hl
                    have hhn : hh' ≤ n := by rcases sbound_le hh with h1 | h1 <;> omega
                    have hln : l ≤ hh' := by rcases sbound_le hl with h1 | h1 <;> omega
                    have hrun : ∀ (w : World) (isS : Bool) (c' : Nat), n ≤ c' → (Instr.sliceBounds isS n c' (lo.map ev') (hi.map ev') none).run P w = .ok (l, hh', c') w := fun w isS c' hc' => by
                      rw [e2, e3]
                      exact run_bounds (m := c') rfl (sbound_mono hc' hh) (by simp) hl
                    obtain ⟨hb, ⟨hcc, _⟩ | ⟨_, c', vx', h1, h2, h3⟩ | ⟨hn0, hc0, o', vx'⟩⟩ := vx.slice_inv
                    · exact absurd rfl hcc
                    · skip
                      obtain ⟨_, _, _, _, _, hsz, _, _⟩ := h.obj b _ hg
                      have hsz : i.size = E.sz b := by simpa [hi'] using hsz
                      by_cases hcl : c' = l
                      · have : hh' - l = 0 := by omega
                        rw [this]
                        refine Sound1.pure h (v' := .slice (some ⟨E.ρ b, off, none⟩) 0 0) ?_ (.se b _ _ _ hb (.inl ⟨rfl, by rw [hsz, ← h3, hcl]; exact Nat.le_refl _⟩))
                        have hr := hrun w true c' h1
                        rw [hcl] at hr
                        simp [execOp, ho, vx', hmx', Instr.sliceAt, Instr.slice, run_underlying hu, hr, sizeOf, typeInfo, hi', hcl, this]
                      · refine Sound1.pure h (v' := .slice (some ⟨E.ρ b, off + l * i.size, none⟩) (hh' - l) (c' - l)) ?_ ?_
                        · simp [execOp, ho, vx', hmx', Instr.sliceAt, Instr.slice, run_underlying hu, hrun _ _ _ h1, sizeOf, typeInfo, hi', hcl, addr_add]
                        · refine .su b _ _ _ hb (by omega) (by omega) ?_
                          rw [hsz]
                          have hlc : l ≤ c' := Nat.le_trans hln (Nat.le_trans hhn h1)
                          have e5 : l * E.sz b + (c' - l) * E.sz b = c' * E.sz b := by rw [← Nat.add_mul, Nat.add_sub_cancel' hlc]
                          rw [Nat.add_assoc, e5]; exact h3
                    · subst hn0
                      have hh0 : hh' = 0 := by omega
                      subst hh0
                      have hl0 : l = 0 := by omega
                      subst hl0
                      refine Sound1.pure h (v' := .slice (some ⟨E.ρ b, o', none⟩) 0 0) ?_ (.se b _ _ _ hb (hc0.imp (fun x => ⟨rfl, by simpa using x.2⟩) (fun x => by simp [U] at x)))
                      simp [execOp, ho, vx', hmx', Instr.sliceAt, Instr.slice, run_underlying hu, hrun _ _ 0 (Nat.le_refl 0), sizeOf, typeInfo, hi']
          | some mv =>
            simp only []
            cases hm : sbound (some mv) n n with
            | none => trivial
            | some m =>
              simp only []
              cases hh : sbound (hi.map ev) m n with
              | none => trivial
              | some hh' =>
                simp only []
                cases hl : sbound (lo.map ev) hh' 0 with
                | none => trivial
                | some l =>
                  simp only []
                  cases hU : Nat.blt (m - l) 1180591620717411303424 with
                  | false => trivial
                  | true =>
                    simp only [cond_true]
                    have hm2 : sbound (mx.map ev) n n = some m := by rw [hmx]; exact hm
                    have e1 := sbound_eq vmx hm2
                    have e2 := sbound_eq vhi hh
                    have e3 := sbound_eq vlo hl
                    have hmn : m ≤ n := by rcases sbound_le hm with h1 | h1 <;> omega
                    have hrun : ∀ (w : World) (isS : Bool) (c' : Nat), n ≤ c' → (Instr.sliceBounds isS n c' (lo.map ev') (hi.map ev') (mx.map ev')).run P w = .ok (l, hh', m) w := fun w isS c' hc' => by
                      refine run_bounds ?_ (by rw [e2]; exact hh) hx' (by rw [e3]; exact hl)
                      rw [e1, hmx]
                      have := sbound_mono (d := n) hc' hm
                      cases mv <;> simp [sbound] at this ⊢ <;> exact this
                    obtain ⟨hb, ⟨hcc, _⟩ | ⟨_, c', vx', h1, h2, h3⟩ | ⟨hn0, hc0, o', vx'⟩⟩ := vx.slice_inv
                    · exact absurd rfl hcc
                    · skip
                      refine Sound1.pure h (v' := .slice (some (if m = l then ⟨E.ρ b, off, none⟩ else ⟨E.ρ b, off + l * i.size, none⟩)) (hh' - l) (m - l)) ?_ (sliceTo_rel hb (lt_U hU))
                      by_cases hml : m = l <;> simp [execOp, ho, vx', Instr.sliceAt, Instr.slice, run_underlying hu, hrun _ _ _ h1, sizeOf, typeInfo, hi', hml, addr_add]
                    · subst hn0
                      have hm0 : m = 0 := by omega
                      subst hm0
                      have hh0 : hh' = 0 := by rcases sbound_le hh with h1 | h1 <;> omega
                      subst hh0
                      have hl0 : l = 0 := by rcases sbound_le hl with h1 | h1 <;> omega
                      subst hl0
                      refine Sound1.pure h (v' := .slice (some ⟨E.ρ b, o', none⟩) 0 0) ?_ ?_
                      · simp [execOp, ho, vx', Instr.sliceAt, Instr.slice, run_underlying hu, hrun _ _ 0 (Nat.le_refl 0), sizeOf, typeInfo, hi']
                      · exact .se b _ _ _ hb (.inr rfl)
    · rename_i n e b off hu hev
      rw [hev] at vx
      cases hi' : P.info? e with
      | none => trivial
      | some i =>
        simp only []
        cases hm : sbound (mx.map ev) n n with
        | none => trivial
        | some m =>
          simp only []
          cases hh : sbound (hi.map ev) m n with
          | none => trivial
          | some hh' =>
            simp only []
            cases hl : sbound (lo.map ev) hh' 0 with
            | none => trivial
            | some l =>
              simp only []
              cases hU : Nat.blt (m - l) 1180591620717411303424 with
              | false => trivial
              | true =>
                simp only [cond_true]
                have e1 := sbound_eq vmx hm
                have e2 := sbound_eq vhi hh
                have e3 := sbound_eq vlo hl
                have hrun := fun (w : World) (isS : Bool) => run_bounds (P := P) (w := w) (isS := isS) hm hh (by rw [← e1, ← e2]; exact hx') hl
                rw [← e1, ← e2, ← e3] at hrun
                obtain ⟨hb, vx'⟩ := vx.ptr_inv
                refine Sound1.pure h (v' := .slice (some (if m = l then ⟨E.ρ b, off, none⟩ else ⟨E.ρ b, off + l * i.size, none⟩)) (hh' - l) (m - l)) ?_ (sliceTo_rel hb (lt_U hU))
                by_cases hml : m = l <;> simp [execOp, ho, vx', Instr.sliceAt, Instr.sureAddr, run_underlying hu, hrun, sizeOf, typeInfo, hi', hml, addr_add]
    · trivial
end Go.Proofs.YtgfjmkjhjfmbeaaGreat
