/- DERIVED. Texts put together: M7. -/
import Derived.MapKept
import Derived.Test.YtpdeidlkeplegaaZ5
set_option maxRecDepth 1000000
set_option maxHeartbeats 32000000
namespace Go.Proofs.Ytpdeidlkeplegaa
open Go.RowKit
inductive PRes (α : Type) where
 | ok (a : α)
 | pan (v : Value)
 | no
def pureR {α : Type} (P : Program) : Sem α → PRes α
 | .pure a => .ok a
 | .program k => pureR P (k P)
 | .mark _ k => pureR P k
 | .halt (.panic v) => .pan v
 | _ => .no
theorem zGn {α : Type} {P : Program} {s : Sem α} {a : α} (h : pureR P s = .ok a) : ∀ w, s.run P w = .ok a w := by
 induction s with
 | pure b => intro w; simp [pureR] at h; subst h; rfl
 | program k ih => intro w; exact ih P h w
 | mark m k ih => intro w; exact ih h w
 | halt x => intro w; cases x <;> simp [pureR] at h
 | _ => simp [pureR] at h
theorem pureR_pan {α : Type} {P : Program} {s : Sem α} {v : Value} (h : pureR P s = .pan v) : ∀ w, s.run P w = .halt (.panic v) w := by
 induction s with
 | pure b => simp [pureR] at h
 | program k ih => intro w; exact ih P h w
 | mark m k ih => intro w; exact ih h w
 | halt x => intro w; cases x <;> simp [pureR] at h; subst h; rfl
 | _ => simp [pureR] at h
def PRes.bind {α β : Type} (r : PRes α) (f : α → PRes β) : PRes β := match r with | .ok a => f a | .pan v => .pan v | .no => .no
theorem pureR_bind' {α β : Type} (P : Program) (s : Sem α) (f : α → Sem β) : pureR P (s.bind f) = (pureR P s).bind fun a => pureR P (f a) := by
 induction s with
 | pure b => rfl
 | program k ih => exact ih P
 | mark m k ih => exact ih
 | halt x => cases x <;> rfl
 | _ => rfl
@[simp] theorem pureR_bind {α β : Type} (P : Program) (s : Sem α) (f : α → Sem β) : pureR P (s >>= f) = (pureR P s).bind fun a => pureR P (f a) := pureR_bind' P s f
@[simp] theorem pureR_pure {α : Type} (P : Program) (a : α) : pureR P (Pure.pure a : Sem α) = .ok a := rfl
@[simp] theorem pureR_program (P : Program) : pureR P program = .ok P := rfl
@[simp] theorem PRes.bind_ok {α β : Type} (a : α) (f : α → PRes β) : (PRes.ok a).bind f = f a := rfl
theorem zBc {P : Program} {t : TypeId} {d : TypeDesc} (h : P.underlying t = some d) : pureR P (underlying t) = .ok d := by simp [underlying, h]
def plainOps (ev : Operand → Value) (o : Oper) : Bool := o.op.operands.toList.all fun x => plainV 8 (ev x)
def noSel (o : Oper) : Bool := match o.op with | .select _ _ => false | _ => true
def zEg (P : Program) (ev : Operand → Value) (o : Oper) : ORes :=
 bif plainOps ev o && noSel o then
  match pureR P (execOp ev o) with
  | .ok (.value v) => bif plainV 8 v then .val v [] 0 else .bad "pure: value"
  | .ok .skip => .val undef [] 0
  | .pan v => bif plainV 8 v then .pan v else .bad "pure: panic"
  | _ => .bad "pure: no"
 else .bad "pure: operands"
theorem aPure_ok {P : Program} {E : Env} {G : Gh} {n : Nat} {w : World} (h : HR P E G w) {ev ev' : Operand → Value} {o : Oper} (hv : ∀ x ∈ o.op.operands, VR E (ev x) (ev' x)) :
  Sound1 P E G n w ((execOp ev' o).run P w) (zEg P ev o) := by
 unfold zEg
 cases hp : (plainOps ev o && noSel o) with
 | false => trivial
 | true =>
  simp only [Bool.and_eq_true] at hp
  have hsel : ∀ cs b, o.op ≠ .select cs b := fun cs b e => by have := hp.2; simp [noSel, e] at this
  have heq : execOp ev' o = execOp ev o := execOp_congr o hsel (fun x hx => zBw 8 (List.all_eq_true.1 hp.1 x (by simpa using hx)) (hv x hx))
  simp only [cond_true]
  rw [heq]
  split
  ·rename_i v hr
   cases hv : plainV 8 v with
   | false => trivial
   | true => exact Sound1.pure h (zGn hr w) (zAg 8 hv)
  ·rename_i hr
   exact fun _ => ⟨_, w, E, zGn hr w, .inr ⟨rfl, rfl⟩, dom0, h, .refl E w, fun u hu => by cases hu⟩
  ·rename_i v hr
   cases hv : plainV 8 v with
   | false => trivial
   | true => exact ⟨v, w, pureR_pan hr w, zAg 8 hv, .inl rfl⟩
  ·trivial
theorem zNt {P : Program} {w : World} {ev : Operand → Value} {o : Oper} {b : Builtin} {as : Array Operand} {ts : Array TypeId} (ho : o.op = .call { callee := .builtin b, args := as, argTypes := ts }) :
  (execOp ev o).run P w = (builtin b ts o.type (as.map fun | .const _ => true | _ => false) (as.map ev)).run P w := by
 simp [execOp, ho, resolve, invoke]
 rfl
theorem zCb {P : Program} {w : World} {r : Nat} {es : Array MapEntry} {c : Nat} (h : w.heap[r]? = some (.map es c)) : (getObj r).run P w = .ok (.map es c) w := by simp [getObj, Sem.run, h]
def aLen (P : Program) (t : TypeId) (v : Value) (G : Gh) : ORes :=
 match P.underlying t, v with
 | some (.slice _), .slice _ n _ => .val (.int .i64 n) [] 0
 | some (.slice _), .func (.via _ _ n false) _ _ => .val (.int .i64 n) [] 0
 | some (.map _ _), .map (some r) => (match G r with | some (.map es _) => .val (.int .i64 es.length) [] 0 | _ => .bad "len: no map")
 | _, _ => .bad "len"
theorem ML.length {E : Env} {l l' : List MapEntry} (h : ML E l l') : l.length = l'.length := by induction h <;> simp_all
theorem MP.length {E : Env} {es : List MapEntry} {es' : Array MapEntry} {k : Nat} (h : MP E es es' k) : es'.size = es.length := by
 obtain ⟨l, h1, h2⟩ := h.perm
 rw [h2.length, h1.length_eq]; rfl
theorem aLen_ok {P : Program} {E : Env} {G : Gh} {nn : Nat} {w : World} (h : HR P E G w) (t ty : TypeId) (cs : Array Bool) {v v' : Value} (hv : VR E v v') :
  Sound1 P E G nn w ((builtin .len #[t] ty cs #[v']).run P w) (aLen P t v G) := by
 unfold aLen
 split
 ·rename_i e a n c hu
  have : ∃ a' c', v' = .slice a' n c' := by cases hv <;> exact ⟨_, _, rfl⟩
  obtain ⟨a', c', rfl⟩ := this
  refine Sound1.pure h (v' := .int .i64 n) ?_ (.int _ _)
  simp [builtin, Builtin.len_, run_underlying hu, goInt]
 ·rename_i e z p n f cs hu
  obtain ⟨b, off, cap, a', y, rfl, _⟩ := hv.tree_inv
  refine Sound1.pure h (v' := .int .i64 n) ?_ (.int _ _)
  simp [builtin, Builtin.len_, run_underlying hu, goInt]
 ·rename_i k e r hu
  split
  ·rename_i es ck hg
   have : v' = .map (some (E.ρ r)) := by cases hv; rfl
   subst this
   obtain ⟨es', h1, h2⟩ := h.obj r _ hg
   refine Sound1.pure h (v' := .int .i64 es.length) ?_ (.int _ _)
   have hl := h2.length
   simp [builtin, Builtin.len_, run_underlying hu, zCb h1, goInt, hl]
  ·trivial
 ·trivial
def aCap (P : Program) (t : TypeId) (v : Value) : ORes :=
 match P.underlying t, v with
 | some (.slice _), .slice none _ c => .val (.int .i64 c) [] 0
 | some (.slice _), .slice (some ⟨_, _, none⟩) _ c => bif c.beq U then .bad "cap" else .val (.int .i64 c) [] 0
 | _, _ => .bad "cap"
theorem aCap_ok {P : Program} {E : Env} {G : Gh} {nn : Nat} {w : World} (h : HR P E G w) (t ty : TypeId) (cs : Array Bool) {v v' : Value} (hv : VR E v v') :
  Sound1 P E G nn w ((builtin .cap #[t] ty cs #[v']).run P w) (aCap P t v) := by
 unfold aCap
 split
 ·rename_i e n c hu
  cases hv
  refine Sound1.pure h (v' := .int .i64 c) ?_ (.int _ _)
  simp [builtin, Builtin.cap_, run_underlying hu, goInt]
 ·rename_i e b o n c hu
  cases hc : c.beq U with
  | true => trivial
  | false =>
   have hcU : c ≠ U := fun e => by rw [e] at hc; simp at hc
   obtain ⟨a', n', rfl⟩ : ∃ a' n', v' = .slice a' n' c := by
    obtain ⟨_, ⟨_, rfl⟩ | ⟨he, _⟩ | ⟨_, hc0, a', _, rfl⟩⟩ := hv.slice_inv
    ·exact ⟨_, _, rfl⟩
    ·exact absurd he hcU
    ·have := hc0.resolve_left (fun x => hcU x.1); subst this; exact ⟨_, _, rfl⟩
   refine Sound1.pure h (v' := .int .i64 c) ?_ (.int _ _)
   simp [builtin, Builtin.cap_, run_underlying hu, goInt]
 ·trivial
def aCopy (P : Program) (t : TypeId) (d x : Value) (G : Gh) : ORes :=
 match P.underlying t with
 | some (.slice e) => (match P.info? e with
  | some i => (match zAk G i.size x with
   | some (m, cs) =>
    (match d with
    | .slice none n _ => bif n.beq 0 then .val (.int .i64 0) [] 0 else .bad "copy: nil"
    | .slice (some ⟨b, o, none⟩) n _ =>
     let k := Nat.min m n
     bif k.beq 0 then .val (.int .i64 0) [] 0 else
     (match G b with
     | some (.cells cc e') =>
      let vs := cs.take (k * i.size)
      bif (o + vs.length).ble cc.length && oneL vs then .val (.int .i64 k) [(b, some (.cells (cc.take o ++ vs ++ cc.drop (o + vs.length)) e'))] 0 else .bad "copy: cells"
     | _ => .bad "copy: no block")
    | _ => .bad "copy: no slice")
   | none => .bad "copy: source")
  | none => .bad "copy: no type")
 | _ => .bad "copy"
theorem zNv {P : Program} {w : World} {t xT ty e : TypeId} {i : TypeInfo} (hu : P.underlying t = some (.slice e)) (hi : P.info? e = some i) {a : Option Addr} {n c : Nat} {x : Value} {m : Nat} {cs : List Value} (hn : Src P w i.size x m cs) (h0 : Nat.min m n = 0) :
  (Builtin.copy_ #[t, xT] ty #[.slice a n c, x]).run P w = .ok (goInt 0) w := by
 have f1 := hn.len w
 have f2 := hn.first w 0 rfl (Nat.zero_le _)
 simp at f2
 cases a <;> simp [Builtin.copy_, run_underlying hu, sizeOf, typeInfo, hi, f1, h0, f2, storeCells]
theorem aCopy_ok {P : Program} {E : Env} {G : Gh} {nn : Nat} {w : World} (h : HR P E G w) (t xT ty : TypeId) {d d' x x' : Value} (hd : VR E d d') (hx : VR E x x') :
  Sound1 P E G nn w (((Builtin.copy_ #[t, xT] ty #[d', x']).run P w).andThen fun v w' => .ok (.value v) w') (aCopy P t d x G) := by
 unfold aCopy
 split
 ·rename_i e hu
  cases hi : P.info? e with
  | none => trivial
  | some i =>
   simp only []
   cases hsrc : zAk G i.size x with
   | none => trivial
   | some mn =>
    obtain ⟨m, cs⟩ := mn
    obtain ⟨cs', hn, vn⟩ := zDy h hx hsrc
    simp only []
    split
    ·rename_i n c
     cases hd
     cases hn0 : n.beq 0 with
     | false => trivial
     | true =>
      have hn0 : n = 0 := Nat.eq_of_beq_eq_true hn0
      subst hn0
      refine Sound1.pure h (v' := .int .i64 0) ?_ (.int _ _)
      rw [zNv hu hi hn (Nat.min_zero _)]; rfl
    ·rename_i b o n c
     have hform : E.dom b ∧ ∃ a' c', d' = .slice a' n c' ∧ (n ≠ 0 → a' = some ⟨E.ρ b, E.sh b + o, none⟩) := by
      obtain ⟨hb, ⟨_, rfl⟩ | ⟨_, c', rfl, _⟩ | ⟨h0, _, o', _, rfl⟩⟩ := hd.slice_inv
      ·exact ⟨hb, _, _, rfl, fun _ => rfl⟩
      ·exact ⟨hb, _, _, rfl, fun _ => rfl⟩
      ·exact ⟨hb, _, _, by rw [h0], fun e => absurd h0 e⟩
     obtain ⟨hbn, a', c', rfl, ha⟩ := hform
     cases hk : (Nat.min m n).beq 0 with
     | true =>
      have hk0 : Nat.min m n = 0 := Nat.eq_of_beq_eq_true hk
      refine Sound1.pure h (v' := .int .i64 0) ?_ (.int _ _)
      rw [zNv hu hi hn hk0]; rfl
     | false =>
      have hk0 : Nat.min m n ≠ 0 := fun e => by rw [e] at hk; simp at hk
      have hkm : Nat.min m n ≤ m := Nat.min_le_left _ _
      have hkn : n ≠ 0 := fun e => hk0 (by rw [e]; exact Nat.min_zero _)
      have ha := ha hkn
      subst ha
      simp only [cond_false]
      cases hg : G b with
      | none => trivial
      | some ob =>
       cases ob with
       | cells cc e' =>
        simp only []
        cases hb : ((o + (cs.take (Nat.min m n * i.size)).length).ble cc.length && oneL (cs.take (Nat.min m n * i.size))) with
        | false => trivial
        | true =>
         simp only [Bool.and_eq_true] at hb
         have hfit := Nat.le_of_ble_eq_true hb.1
         have hor := h.obj b _ hg
         have vt := vn.take (Nat.min m n * i.size)
         have l2 := vt.length
         have hst := run_storeCells_cells (P := P) (E.ρ b) o (cs'.take (Nat.min m n * i.size)) 0 w
          (fun j hj => by obtain ⟨v', z1, _⟩ := zAt hor (o + 0 + j) _ (List.getElem?_eq_getElem (by omega)); rw [z1]; rfl)
          (fun j hj => by obtain ⟨v', _, z2, _⟩ := zAt hor (o + 0 + j) _ (List.getElem?_eq_getElem (by omega)); exact z2)
          (fun u hu => by have := vt.one; rw [hb.2] at this; exact List.all_eq_true.1 this u hu)
         simp only [Nat.add_zero] at hst
         have f1 := hn.len w
         have f2 := hn.first w (Nat.min m n) rfl hkm
         obtain ⟨r1, r2, r3, r4⟩ := zBa (E.ρ b) (cs'.take (Nat.min m n * i.size)) o w
         obtain ⟨k1, k2⟩ := h.put hg ⟨r1, r2, r3, r4⟩ (fun k hk => zAu _ _ _ _ _ hk) (zGj hor (o := o) vt hfit)
         refine fun _ => ⟨.value (.int .i64 (Nat.min m n)), _, E, ?_, .inl ⟨_, rfl, .int _ _⟩, dom0, k1, k2, fun u hu hl => by simp at hu; subst hu; rw [hg]; simp⟩
         simp [Builtin.copy_, run_underlying hu, sizeOf, typeInfo, hi, f1, f2, hst, goInt, hor.sh0]
       | _ => trivial
    ·trivial
 ·trivial
def zeroL (z : Array Value) (n : Nat) : List Value := (List.range (n * z.size)).map fun i => z[i % z.size]!
theorem zeroL_eq (z : Array Value) (n : Nat) : (Builtin.zeroCells z n).toList = zeroL z n := by simp [Builtin.zeroCells, zeroL]
def zPw (P : Program) (t : TypeId) (d : Value) (G : Gh) : ORes :=
 match P.underlying t with
 | some (.slice e) =>
  (match d with
  | .slice none _ _ => .val (.tuple #[]) [] 0
  | .slice (some ⟨b, o, none⟩) n _ =>
   bif n.beq 0 then .val (.tuple #[]) [] 0 else
   (match P.info? e with
   | some i => (match i.zero with
    | some z => (match G b with
     | some (.cells cc e') => bif (o + (zeroL z.cells n).length).ble cc.length && oneL (zeroL z.cells n) && (zeroL z.cells n).all (plainV 8) then .val (.tuple #[]) [(b, some (.cells (cc.take o ++ zeroL z.cells n ++ cc.drop (o + (zeroL z.cells n).length)) e'))] 0 else .bad "clear: cells"
     | _ => .bad "clear: no block")
    | none => .bad "clear: zero")
   | none => .bad "clear: type")
  | _ => .bad "clear: no slice")
 | _ => .bad "clear"
theorem aClear_ok {P : Program} {E : Env} {G : Gh} {nn : Nat} {w : World} (h : HR P E G w) (t ty : TypeId) {d d' : Value} (hd : VR E d d') :
  Sound1 P E G nn w (((Builtin.clear_ #[t] ty #[d']).run P w).andThen fun v w' => .ok (.value v) w') (zPw P t d G) := by
 unfold zPw
 split
 ·rename_i e hu
  split
  ·rename_i n c
   cases hd
   exact Sound1.pure h (v' := .tuple #[]) (by simp [Builtin.clear_, run_underlying hu]) (.tuple _ _ .nil)
  ·rename_i b o n c
   obtain ⟨hbn, a', c', rfl, ha⟩ : E.dom b ∧ ∃ a' c', d' = .slice a' n c' ∧ (n ≠ 0 → a' = some ⟨E.ρ b, E.sh b + o, none⟩) := by
    obtain ⟨hb, ⟨_, rfl⟩ | ⟨_, c', rfl, _⟩ | ⟨h0, _, o', _, rfl⟩⟩ := hd.slice_inv
    ·exact ⟨hb, _, _, rfl, fun _ => rfl⟩
    ·exact ⟨hb, _, _, rfl, fun _ => rfl⟩
    ·exact ⟨hb, _, _, by rw [h0], fun e => absurd h0 e⟩
   cases hn : n.beq 0 with
   | true =>
    have hn0 : n = 0 := Nat.eq_of_beq_eq_true hn
    subst hn0
    refine Sound1.pure h (v' := .tuple #[]) ?_ (.tuple _ _ .nil)
    cases a' <;> simp [Builtin.clear_, run_underlying hu]
   | false =>
    have hn0 : n ≠ 0 := fun e => by rw [e] at hn; simp at hn
    have ha := ha hn0
    subst ha
    obtain ⟨m, rfl⟩ : ∃ m, n = m + 1 := ⟨n - 1, by omega⟩
    simp only [cond_false]
    cases hi : P.info? e with
    | none => trivial
    | some i =>
     simp only []
     cases hz : i.zero with
     | none => trivial
     | some z =>
      simp only []
      cases hg : G b with
      | none => trivial
      | some ob =>
       cases ob with
       | cells cc e' =>
        simp only []
        cases hb : ((o + (zeroL z.cells (m + 1)).length).ble cc.length && oneL (zeroL z.cells (m + 1)) && (zeroL z.cells (m + 1)).all (plainV 8)) with
        | false => trivial
        | true =>
         simp only [Bool.and_eq_true] at hb
         have hfit := Nat.le_of_ble_eq_true hb.1.1
         have hor := h.obj b _ hg
         generalize hvs : zeroL z.cells (m + 1) = vs at *
         have vt : VL E vs vs := VL.of_at rfl (fun i v v' h1 h2 => by rw [h1] at h2; cases h2; exact zAg 8 (List.all_eq_true.1 hb.2 v (List.mem_of_getElem? h1)))
         have hst := run_storeCells_cells (P := P) (E.ρ b) o vs 0 w
          (fun j hj => by obtain ⟨v', z1, _⟩ := zAt hor (o + 0 + j) _ (List.getElem?_eq_getElem (by omega)); rw [z1]; rfl)
          (fun j hj => by obtain ⟨v', _, z2, _⟩ := zAt hor (o + 0 + j) _ (List.getElem?_eq_getElem (by omega)); exact z2)
          (fun u hu => List.all_eq_true.1 hb.1.2 u hu)
         simp only [Nat.add_zero] at hst
         obtain ⟨r1, r2, r3, r4⟩ := zBa (E.ρ b) vs o w
         obtain ⟨k1, k2⟩ := h.put hg ⟨r1, r2, r3, r4⟩ (fun k hk => zAu _ _ _ _ _ hk) (zGj hor (o := o) vt hfit)
         refine fun _ => ⟨.value (.tuple #[]), _, E, ?_, .inl ⟨_, rfl, .tuple _ _ .nil⟩, dom0, k1, k2, fun u hu hl => by simp at hu; subst hu; rw [hg]; simp⟩
         simp [Builtin.clear_, run_underlying hu, zeroValue, typeInfo, hi, hz, zeroL_eq, hst, hvs, hor.sh0]
       | _ => trivial
  ·trivial
 ·trivial
def byteOf (v : Value) : Option UInt8 := match v with | .int .u8 n => bif decide (0 ≤ n) && decide (n < 256) then some (UInt8.ofNat n.toNat) else none | _ => none
def bytesOf : List Value → Option (List UInt8)
 | [] => some []
 | v :: l => match byteOf v, bytesOf l with | some b, some bs => some (b :: bs) | _, _ => none
theorem zOo {v : Value} {b : UInt8} (h : byteOf v = some b) : v = .int .u8 (b.toNat : Int) := by
 unfold byteOf at h
 split at h
 ·rename_i n
  cases hc : (decide (0 ≤ n) && decide (n < 256)) with
  | false => simp [hc] at h
  | true =>
   rw [hc] at h
   simp only [Bool.and_eq_true, decide_eq_true_eq] at hc
   simp at h
   subst h
   congr 1
   simp
   omega
 ·cases h
theorem zHp {E : Env} : ∀ {l l' : List Value} {bs : List UInt8}, VL E l l' → bytesOf l = some bs → l' = (bs.map fun b => (b.toNat : Int)).map (Value.int .u8)
 | _, _, bs, .nil, h => by simp [bytesOf] at h; subst h; rfl
 | _, _, bs, .cons v v' l l' hv ht, h => by
  simp only [bytesOf] at h
  cases hb : byteOf v with
  | none => simp [hb] at h
  | some b =>
   cases hr : bytesOf l with
   | none => simp [hb, hr] at h
   | some br =>
    simp [hb, hr] at h
    subst h
    have e := zOo hb
    subst e
    rw [zHp ht hr, hv.int_eq]
    rfl
def zQb (P : Program) (src dst : TypeId) (v : Value) (G : Gh) : ORes :=
 match P.underlying src, P.underlying dst with
 | some (.slice e), some .string => (match P.underlying e with
  | some (.int .u8) => (match zAk G 1 v with
   | some (_, cs) => (match bytesOf cs with | some bs => .val (.string ⟨bs.toArray⟩) [] 0 | none => .bad "string: bytes")
   | none => .bad "string: source")
  | _ => .bad "string: no bytes")
 | _, _ => .bad "convert"
theorem aToStr_ok {P : Program} {E : Env} {G : Gh} {nn : Nat} {w : World} (h : HR P E G w) (src dst : TypeId) (x : Operand) {ev : Operand → Value} {v : Value} {o : Oper} (ho : o.op = .convert src dst x) (hsl : ∃ a n c, v = .slice a n c) (hv : VR E v (ev x)) :
  Sound1 P E G nn w ((execOp ev o).run P w) (zQb P src dst v G) := by
 unfold zQb
 split
 ·rename_i e hs hd
  split
  ·rename_i he
   cases hsrc : zAk G 1 v with
   | none => trivial
   | some mn =>
    obtain ⟨m, cs⟩ := mn
    obtain ⟨cs', hn, vn⟩ := zDy h hv hsrc
    simp only []
    cases hb : bytesOf cs with
    | none => trivial
    | some bs =>
     have e1 := zHp vn hb
     obtain ⟨a, n, c, rfl⟩ := hsl
     have : ∃ a' c', ev x = .slice a' n c' := by cases hv' : ev x <;> rw [hv'] at hv <;> cases hv <;> exact ⟨_, _, rfl⟩
     obtain ⟨a', c', hev⟩ := this
     refine Sound1.pure h (v' := .string ⟨bs.toArray⟩) ?_ (.string _)
     rw [hev] at hn
     have hm : m = n := by have := hn.len w; simp [Builtin.lenOf] at this; exact this.symm
     subst hm
     have hl : cs'.length = m := by rw [hn.size, Nat.mul_one]
     simp only [execOp, ho, hev, Sem.run_bind]
     rw [run_convert_bytes_string w src dst e a' m c' hs he hd]
     cases a' with
     | none =>
      have hf := hn.all w rfl
      simp [Builtin.firstCells] at hf
      have : bs = [] := by rw [hf] at e1; simpa using e1.symm
      subst this
      simp [Conv.bytesToString]
      rfl
     | some a' =>
      have hf := hn.all w rfl
      simp only [Builtin.firstCells, Nat.mul_one] at hf
      rw [e1] at hf
      rw [run_bytesToString w a' m c' _ hf, foldl_push_byteCells]
      simp
  ·trivial
 ·trivial
def zIc (P : Program) (src dst : TypeId) (s : ByteArray) (n : Nat) : ORes :=
 match P.underlying src, P.underlying dst with
 | some .string, some (.slice e) => (match P.underlying e, P.info? e with
  | some (.int .u8), some i => bif i.size.beq 1 && decide (s.data.toList.length ≤ 9223372036854775807) then zBo n (s.data.toList.map fun b => .int .u8 b.toNat) e (.slice (some ⟨n, 0, none⟩) s.data.toList.length U) else .bad "bytes: size"
  | _, _ => .bad "bytes")
 | _, _ => .bad "convert"
theorem zOl {P : Program} {E : Env} {G : Gh} {n : Nat} {w : World} (h : HR P E G w) (src dst : TypeId) (x : Operand) {ev : Operand → Value} {s : ByteArray} {o : Oper} (ho : o.op = .convert src dst x) (hv : VR E (.string s) (ev x)) :
  Sound1 P E G n w ((execOp ev o).run P w) (zIc P src dst s n) := by
 unfold zIc
 split
 ·rename_i e hs hd
  split
  ·rename_i i he hi
   cases hb : (i.size.beq 1 && decide (s.data.toList.length ≤ 9223372036854775807)) with
   | false => trivial
   | true =>
    simp only [Bool.and_eq_true, decide_eq_true_eq] at hb
    have h1 : i.size = 1 := Nat.eq_of_beq_eq_true hb.1
    have hev : ev x = .string s := by cases hv' : ev x <;> rw [hv'] at hv <;> cases hv; rfl
    have hsz : s.data.toList.length = s.size := rfl
    have hcap : s.size ≤ grownCap w s.size 0 e := by have := grownCap_ge w s.size 0 e; exact this
    have hcm : grownCap w s.size 0 e ≤ maxLen := grownCap_le_maxLen w _ _ _ (by rw [← hsz]; unfold maxLen; omega)
    have hrow : (bytesRow s (grownCap w s.size 0 e)).size = grownCap w s.size 0 e := by
     simp [bytesRow]; show s.size + _ = _; omega
    refine Sound1.newD (w1 := w.drew) h (.inr rfl) _ _ (bytesRow s (grownCap w s.size 0 e)).size i.size (v' := .slice (some ⟨w.heap.size, 0, none⟩) s.size (grownCap w s.size 0 e)) ?_
     (fun hfr => zPe (w := w.drew) hfr ((bytesRow s (grownCap w s.size 0 e)).size, (bytesRow s (grownCap w s.size 0 e)).size + 1) (.inr ⟨Nat.le_refl _, he⟩) (by simp [hi]) ?_ ?_ ?_) ?_
    ·simp only [execOp, ho, hev, Sem.run_bind, run_bytes_of_string w src dst e s hs hd he]; rfl
    ·rw [hrow, List.length_map]; exact hcap
    ·rw [List.length_map, hsz]
     have : (bytesRow s (grownCap w s.size 0 e)).toList.take s.size = s.data.toList.map fun b => .int .u8 b.toNat := by
      simp only [bytesRow, Array.toList_append, Array.toList_map]
      rw [List.take_left']
      rw [List.length_map]; rfl
     rw [this]
     exact zBq (List.all_eq_true.2 (by intro v hv; obtain ⟨b, _, rfl⟩ := List.mem_map.1 hv; rfl))
    ·intro _ _ _ _ _ _ v hj
     have hm := List.mem_of_mem_drop hj
     simp only [bytesRow, Array.toList_append, Array.toList_map, List.mem_append] at hm
     rcases hm with hm | hm
     ·obtain ⟨b, _, rfl⟩ := List.mem_map.1 hm; exact ⟨_, rfl⟩
     ·simp at hm; exact ⟨_, hm.2⟩
    ·rw [hrow, h1]; exact zHl hcap hcm (by omega)
  ·trivial
 ·trivial
end Go.Proofs.Ytpdeidlkeplegaa
