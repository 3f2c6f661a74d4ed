/- DERIVED. Texts put together: M8. -/
import Derived.LaidEql
import Derived.LaidEqlPtr
import Derived.WalkSpells
import Derived.WideLaws
import Derived.Test.YtpdeidlkeplegaaZ6
set_option maxRecDepth 1000000
set_option maxHeartbeats 32000000
namespace Go.Proofs.Ytpdeidlkeplegaa
open Go.RowKit
def zPx (n : Nat) (r : Option Value) : ORes := match r with | none => .val (.map (some n)) [(n, some (.map [] 0))] 1 | some _ => .bad "makeMap: hint"
theorem map_new {E : Env} {m b t s : Nat} : VR (E.push m b t s) (.map (some m)) (.map (some b)) := by
 have := VR.map (E := E.push m b t s) m (E.push_dom m b t s)
 rwa [Env.push_ρ] at this
theorem zOk {P : Program} {E : Env} {G : Gh} {n : Nat} {w : World} (h : HR P E G w) (t : TypeId) (r : Option Operand) {ev ev' : Operand → Value} {o : Oper} (ho : o.op = .makeMap t r) :
  Sound1 P E G n w ((execOp ev' o).run P w) (zPx n (r.map ev)) := by
 cases r with
 | some r => trivial
 | none =>
  refine Sound1.new h (.map #[] 0) _ 0 0 ?_ (fun _ => ⟨#[], by rw [Env.push_ρ]; exact heap_alloc_new w _, ⟨[], .nil, .nil⟩, by simp, by simp⟩) map_new
  simp [execOp, ho, Instr.makeMap]
def eqK (P : Program) (kt : TypeId) (k : Value) (e : MapEntry) : Option Bool := match pureR P (Op.equal kt k e.key) with | .ok b => some b | _ => none
def zCj (P : Program) (kt : TypeId) (k : Value) : List MapEntry → Nat → Option (Option (Nat × Value))
 | [], _ => some none
 | e :: es, i =>
  match eqK P kt k e with
  | some true => bif es.all (fun x => match eqK P kt k x with | some false => true | _ => false) then some (some (i, e.val)) else none
  | some false => zCj P kt k es (i + 1)
  | none => none
def zAe (es : List MapEntry) : Bool := es.all fun e => plainV 8 e.key
theorem zSo {P : Program} {kt : TypeId} {d : TypeDesc} {k key : Value} {b : Bool} (hd : P.underlying kt = some d) (h : Instr.sameNow d k key = some b) : pureR P (Op.equal kt k key) = .ok b := by
 unfold Op.equal Op.maxDepth Op.equalIn
 simp only [pureR_bind, zBc hd, PRes.bind_ok]
 cases d <;> cases k <;> cases key <;> simp [Instr.sameNow] at h ⊢
 case int.int.int =>
  obtain ⟨h1, h2⟩ := h
  simp [h1, h2]
 all_goals exact h
theorem same_eqK {P : Program} {kt : TypeId} {d : TypeDesc} {k : Value} {e : MapEntry} {b : Bool} (hd : P.underlying kt = some d) (h : Instr.sameNow d k e.key = some b) : eqK P kt k e = some b := by
 unfold eqK; rw [zSo hd h]
theorem eqK_run {P : Program} {kt : TypeId} {k : Value} {e : MapEntry} {b : Bool} (h : eqK P kt k e = some b) : pureR P (Op.equal kt k e.key) = .ok b := by
 unfold eqK at h
 split at h
 ·rename_i h1; simp at h; subst h; exact h1
 ·cases h
def fstT (p : MapEntry → Option Bool) : List MapEntry → Nat → Option (Nat × Value)
 | [], _ => none
 | e :: l, i => match p e with | some true => some (i, e.val) | _ => fstT p l (i + 1)
theorem zNg {p : MapEntry → Option Bool} : ∀ {l : List MapEntry} {i : Nat}, (∀ e ∈ l, p e = some false) → fstT p l i = none
 | [], _, _ => rfl
 | e :: l, i, h => by simp only [fstT, h e (by simp)]; exact zNg fun x hx => h x (by simp [hx])
theorem fstT_at {p : MapEntry → Option Bool} {e : MapEntry} {D : List MapEntry} (he : p e = some true) : ∀ {C : List MapEntry} {i : Nat}, (∀ x ∈ C, p x = some false) → fstT p (C ++ e :: D) i = some (i + C.length, e.val)
 | [], i, _ => by simp [fstT, he]
 | x :: C, i, h => by
  simp only [List.cons_append, fstT, h x (by simp), List.length_cons]
  rw [fstT_at he fun y hy => h y (by simp [hy]), show i + 1 + C.length = i + (C.length + 1) by omega]
theorem zIx {P : Program} {kt : TypeId} {d : TypeDesc} {k : Value} (hd : P.underlying kt = some d) : ∀ {l : List MapEntry} {i : Nat} {q : Option (Nat × Value)}, Instr.findNow d k l i = some q → q = fstT (eqK P kt k) l i
 | [], i, q, h => by simp [Instr.findNow] at h; subst h; rfl
 | e :: l, i, q, h => by
  simp only [Instr.findNow] at h
  cases hs : Instr.sameNow d k e.key with
  | none => simp [hs] at h
  | some b =>
   simp only [fstT, same_eqK hd hs]
   cases b with
   | true => simp [hs] at h; simp [← h]
   | false => simp [hs] at h; exact zIx hd h
theorem zFl {P : Program} {kt : TypeId} {k : Value} (w : World) : ∀ {l : List MapEntry} {i : Nat}, (∀ e ∈ l, (eqK P kt k e).isSome = true) → (Instr.findAsking kt k l i).run P w = .ok (fstT (eqK P kt k) l i) w
 | [], i, _ => by simp [Instr.findAsking, fstT]
 | e :: l, i, h => by
  have he := h e (by simp)
  cases hb : eqK P kt k e with
  | none => simp [hb] at he
  | some b =>
   have hr := zGn (eqK_run hb) w
   have ih := zFl (P := P) (kt := kt) (k := k) w (l := l) (i := i + 1) (fun x hx => h x (by simp [hx]))
   simp only [fstT, hb]
   cases b with
   | true => simp [Instr.findAsking, hr]
   | false => simp [Instr.findAsking, hr, ih]
theorem zIw {P : Program} {kt : TypeId} {d : TypeDesc} {k : Value} (hd : P.underlying kt = some d) (w : World) {l : List MapEntry} (h : ∀ e ∈ l, (eqK P kt k e).isSome = true) : (Instr.findKey kt k l).run P w = .ok (fstT (eqK P kt k) l 0) w := by
 simp only [Instr.findKey, Sem.run_bind, run_underlying hd, Result.andThen_ok]
 cases hn : Instr.findNow d k l 0 with
 | some q => rw [← zIx hd hn]; rfl
 | none => exact zFl w h
theorem zKj {P : Program} {kt : TypeId} {k : Value} : ∀ {es : List MapEntry} {i : Nat} {r : Option (Nat × Value)}, zCj P kt k es i = some r →
  (r = none ∧ ∀ e ∈ es, eqK P kt k e = some false) ∨ ∃ A e B, es = A ++ e :: B ∧ r = some (i + A.length, e.val) ∧ eqK P kt k e = some true ∧ (∀ x ∈ A, eqK P kt k x = some false) ∧ ∀ x ∈ B, eqK P kt k x = some false
 | [], i, r, h => by simp [zCj] at h; exact .inl ⟨h.symm, by simp⟩
 | e :: es, i, r, h => by
  simp only [zCj] at h
  split at h
  ·rename_i he
   cases ha : (es.all fun x => match eqK P kt k x with | some false => true | _ => false) with
   | false => simp [ha] at h
   | true =>
    simp [ha] at h
    refine .inr ⟨[], e, es, rfl, h.symm, he, by simp, fun x hx => ?_⟩
    have := List.all_eq_true.1 ha x hx
    split at this
    ·assumption
    ·cases this
  ·rename_i he
   rcases zKj h with ⟨h1, h2⟩ | ⟨A, e1, B, h1, h2, h3, h4, h5⟩
   ·exact .inl ⟨h1, fun x hx => by rcases List.mem_cons.1 hx with rfl | hx; exact he; exact h2 x hx⟩
   ·refine .inr ⟨e :: A, e1, B, by rw [h1]; rfl, by rw [h2]; simp; omega, h3, fun x hx => by rcases List.mem_cons.1 hx with rfl | hx; exact he; exact h4 x hx, h5⟩
  ·cases h
theorem ML.split {E : Env} : ∀ {A : List MapEntry} {e : MapEntry} {B l : List MapEntry}, ML E (A ++ e :: B) l → ∃ A' e' B', l = A' ++ e' :: B' ∧ ML E A A' ∧ VR E e.key e'.key ∧ VR E e.val e'.val ∧ ML E B B'
 | [], e, B, _, .cons _ e' _ l' hk hv ht => ⟨[], e', l', rfl, .nil, hk, hv, ht⟩
 | x :: A, e, B, _, .cons _ e' _ l' hk hv ht => by
  obtain ⟨A', e1, B', h1, h2, h3, h4, h5⟩ := ML.split (A := A) ht
  exact ⟨e' :: A', e1, B', by rw [h1]; rfl, .cons _ _ _ _ hk hv h2, h3, h4, h5⟩
theorem ML.keys {E : Env} {P : Program} {kt : TypeId} {k : Value} {b : Bool} {l l' : List MapEntry} (h : ML E l l') (hp : zAe l = true) (hb : ∀ x ∈ l, eqK P kt k x = some b) : ∀ x ∈ l', eqK P kt k x = some b := by
 induction h with
 | nil => simp
 | cons e e' l l' hk hv ht ih =>
  simp only [zAe, List.all_cons, Bool.and_eq_true] at hp
  have he : e'.key = e.key := zBw 8 hp.1 hk
  intro x hx
  rcases List.mem_cons.1 hx with rfl | hx
  ·have := hb e (by simp)
   unfold eqK at this ⊢; rw [he]; exact this
  ·exact ih hp.2 (fun y hy => hb y (by simp [hy])) x hx
inductive FR (P : Program) (E : Env) (kt : TypeId) (k : Value) (es : List MapEntry) (es' : Array MapEntry) : Option (Nat × Value) → Option (Nat × Value) → Prop
 | none : FR P E kt k es es' none none
 | some (A B : List MapEntry) (e e' : MapEntry) (A' B' C D : List MapEntry) (h1 : es = A ++ e :: B) (h2 : es'.toList = C ++ e' :: D) (h3 : (A' ++ B').Perm (C ++ D)) (ha : ML E A A') (hb : ML E B B') (hk : e'.key = e.key) (hv : VR E e.val e'.val) : FR P E kt k es es' (some (A.length, e.val)) (some (C.length, e'.val))
theorem find_a {P : Program} {E : Env} {kt : TypeId} {d : TypeDesc} {k : Value} (hd : P.underlying kt = some d) (w : World) {es : List MapEntry} {es' : Array MapEntry} {ck : Nat} {r : Option (Nat × Value)} (hm : MP E es es' ck) (hp : zAe es = true) (h : zCj P kt k es 0 = some r) :
  ∃ q, (Instr.findKey kt k es'.toList).run P w = .ok q w ∧ FR P E kt k es es' r q := by
 obtain ⟨l, hl, hml⟩ := hm.perm
 rcases zKj h with ⟨h1, h2⟩ | ⟨A, e, B, h1, h2, h3, h4, h5⟩
 ·have h6 : ∀ x ∈ es'.toList, eqK P kt k x = some false := fun x hx => hml.keys hp h2 x (hl.mem_iff.2 hx)
  subst h1
  refine ⟨none, ?_, .none⟩
  rw [zIw hd w fun x hx => by rw [h6 x hx]; rfl, zNg h6]
 ·subst h1
  obtain ⟨A', e', B', rfl, ha, hk, hv, hb⟩ := hml.split
  simp only [zAe, List.all_append, List.all_cons, Bool.and_eq_true] at hp
  have he : e'.key = e.key := zBw 8 hp.2.1 hk
  have he' : eqK P kt k e' = some true := by unfold eqK at h3 ⊢; rw [he]; exact h3
  obtain ⟨C, D, hCD⟩ := List.append_of_mem (hl.mem_iff.1 (show e' ∈ A' ++ e' :: B' by simp))
  have hperm : (A' ++ B').Perm (C ++ D) := by
   have h7 : (e' :: (A' ++ B')).Perm (e' :: (C ++ D)) := List.perm_middle.symm.trans (by rw [hCD] at hl; exact hl.trans List.perm_middle)
   exact h7.cons_inv
  have hA := ha.keys hp.1 h4
  have hB := hb.keys hp.2.2 h5
  have h6 : ∀ x ∈ C ++ D, eqK P kt k x = some false := fun x hx => by
   rcases List.mem_append.1 (hperm.mem_iff.2 hx) with h | h
   ·exact hA x h
   ·exact hB x h
  subst h2
  refine ⟨some (C.length, e'.val), ?_, by rw [Nat.zero_add]; exact .some A B e e' A' B' C D rfl hCD hperm ha hb he hv⟩
  rw [hCD, zIw hd w fun x hx => ?_, fstT_at he' fun x hx => h6 x (by simp [hx])]
  ·simp
  ·rcases List.mem_append.1 hx with h | h
   ·rw [h6 x (by simp [h])]; rfl
   ·rcases List.mem_cons.1 h with rfl | h
    ·rw [he']; rfl
    ·rw [h6 x (by simp [h])]; rfl
def keyOk (P : Program) (kt : TypeId) (em : Bool) (k : Value) : Bool := plainV 8 k && (match pureR P (Instr.checkKey em 10000 kt k) with | .ok _ => true | _ => false)
theorem zHb {P : Program} {kt : TypeId} {em : Bool} {k : Value} (h : keyOk P kt em k = true) : plainV 8 k = true ∧ ∀ w, (Instr.checkKey em 10000 kt k).run P w = .ok () w := by
 simp only [keyOk, Bool.and_eq_true] at h
 refine ⟨h.1, fun w => ?_⟩
 cases hp : pureR P (Instr.checkKey em 10000 kt k) with
 | ok a => exact zGn hp w
 | pan v => simp [hp] at h
 | no => simp [hp] at h
def zFn (P : Program) (t : TypeId) (m k : Value) (ok : Bool) (G : Gh) : ORes :=
 match P.underlying t, m with
 | some (.map kt et), .map (some r) =>
  (match G r, P.underlying kt with
  | some (.map es _), some _ =>
   bif zAe es && keyOk P kt es.isEmpty k then
    (match zCj P kt k es 0 with
    | some (some (_, v)) => .val (bif ok then .tuple #[v, .bool true] else v) [] 0
    | some none => (match P.info? et with
     | some i => (match i.zero with
      | some z => bif plainV 8 z then .val (bif ok then .tuple #[z, .bool false] else z) [] 0 else .bad "lookup: zero"
      | none => .bad "lookup: no zero")
     | none => .bad "lookup: no type")
    | none => .bad "lookup: find")
   else .bad "lookup: key"
  | _, _ => .bad "lookup: no map")
 | _, _ => .bad "lookup"
theorem MP.isEmpty {E : Env} {es : List MapEntry} {es' : Array MapEntry} {k : Nat} (h : MP E es es' k) : es'.isEmpty = es.isEmpty := by
 have := h.length
 cases es with
 | nil => simp [Array.isEmpty] at this ⊢; exact this
 | cons x l => simp [Array.isEmpty] at this ⊢; intro e; rw [e] at this; simp at this
theorem zRr {P : Program} {E : Env} {G : Gh} {n : Nat} {w : World} (h : HR P E G w) (t : TypeId) (x y : Operand) (ok : Bool) {ev : Operand → Value} {m k : Value} {o : Oper} (ho : o.op = .lookup t x y ok) (hm : VR E m (ev x)) (hk : VR E k (ev y)) :
  Sound1 P E G n w ((execOp ev o).run P w) (zFn P t m k ok G) := by
 unfold zFn
 split
 ·rename_i kt et r hu
  have hev : ev x = .map (some (E.ρ r)) := by cases hv' : ev x <;> rw [hv'] at hm <;> cases hm; rfl
  split
  ·rename_i es ck d hg hd
   obtain ⟨es', h1, h2⟩ := h.obj r _ hg
   cases hc : (zAe es && keyOk P kt es.isEmpty k) with
   | false => trivial
   | true =>
    simp only [Bool.and_eq_true] at hc
    obtain ⟨hp, hck⟩ := zHb hc.2
    have hky : ev y = k := zBw 8 hp hk
    simp only [cond_true]
    have hem : es'.isEmpty = es.isEmpty := h2.isEmpty
    cases hf : zCj P kt k es 0 with
    | none => trivial
    | some f =>
     obtain ⟨q, hq, hr⟩ := find_a hd w h2 hc.1 hf
     cases hr with
     | none =>
      simp only []
      cases hi : P.info? et with
      | none => trivial
      | some i =>
       simp only []
       cases hz : i.zero with
       | none => trivial
       | some z =>
        simp only []
        cases hpz : plainV 8 z with
        | false => trivial
        | true =>
         cases ok
         ·refine Sound1.pure h (v' := z) ?_ (zAg 8 hpz)
          simp [execOp, ho, hev, hky, Instr.lookup, run_underlying hu, zCb h1, hem, hck, hq, zeroValue, typeInfo, hi, hz]
         ·refine Sound1.pure h (v' := .tuple #[z, .bool false]) ?_ (.tuple _ _ (.cons _ _ _ _ (zAg 8 hpz) (.cons _ _ _ _ (.bool _) .nil)))
          simp [execOp, ho, hev, hky, Instr.lookup, run_underlying hu, zCb h1, hem, hck, hq, zeroValue, typeInfo, hi, hz]
     | some A B e e' A' B' C D q1 q2 q3 ha hb hke hv =>
      cases ok
      ·refine Sound1.pure h (v' := e'.val) ?_ hv
       simp [execOp, ho, hev, hky, Instr.lookup, run_underlying hu, zCb h1, hem, hck, hq]
      ·refine Sound1.pure h (v' := .tuple #[e'.val, .bool true]) ?_ (.tuple _ _ (.cons _ _ _ _ hv (.cons _ _ _ _ (.bool _) .nil)))
       simp [execOp, ho, hev, hky, Instr.lookup, run_underlying hu, zCb h1, hem, hck, hq]
  ·trivial
 ·trivial
def modE (es : List MapEntry) (i : Nat) (k v : Value) : List MapEntry := es.modify i fun e => { e with key := k, val := v }
theorem ML.append {E : Env} {a a' b b' : List MapEntry} (h : ML E a a') (k : ML E b b') : ML E (a ++ b) (a' ++ b') := by
 induction h with
 | nil => exact k
 | cons e e' l l' h1 h2 ht ih => exact .cons _ _ _ _ h1 h2 ih
theorem zHe {A B : List MapEntry} {e : MapEntry} (f : MapEntry → MapEntry) : (A ++ e :: B).modify A.length f = A ++ f e :: B := by
 induction A with
 | nil => rfl
 | cons x A ih => simp only [List.cons_append, List.length_cons, List.modify_succ_cons, ih]
theorem zIt {A B : List MapEntry} {e : MapEntry} : (A ++ e :: B).eraseIdx A.length = A ++ B := by
 induction A with
 | nil => rfl
 | cons x A ih => simp only [List.cons_append, List.length_cons, List.eraseIdx_cons_succ, ih]
theorem MP.push {E : Env} {es : List MapEntry} {es' : Array MapEntry} {ck b : Nat} (h : MP E es es' ck) {k v v' : Value} (hk : VR E k k) (hv : VR E v v') : MP E (es ++ [{ key := k, val := v, born := b }]) (es'.push { key := k, val := v', born := ck }) (ck + 1) := by
 obtain ⟨l, h1, h2⟩ := h.perm
 refine ⟨⟨l ++ [{ key := k, val := v', born := ck }], by rw [Array.toList_push]; exact h1.append_right _, h2.append (.cons _ _ _ _ hk hv .nil)⟩, fun x hx => ?_, ?_⟩
 ·simp at hx
  rcases hx with hx | rfl
  ·have := h.lt x (by simpa using hx); omega
  ·exact Nat.lt_succ_self _
 ·rw [Array.toList_push, List.map_append]
  refine List.nodup_append.2 ⟨h.nd, by simp, fun a ha b hb e => ?_⟩
  obtain ⟨x, hx, rfl⟩ := List.mem_map.1 ha
  simp at hb
  have := h.lt x hx
  omega
theorem MP.mod {E : Env} {es' : Array MapEntry} {ck : Nat} {A B A' B' C D : List MapEntry} {e e' : MapEntry} {es : List MapEntry} (h : MP E es es' ck) (h2 : es'.toList = C ++ e' :: D) (h3 : (A' ++ B').Perm (C ++ D)) (ha : ML E A A') (hb : ML E B B') {k v v' : Value} (hk : VR E k k) (hv : VR E v v') :
  MP E (A ++ { e with key := k, val := v } :: B) (es'.modify C.length fun e => { e with key := k, val := v' }) ck := by
 have ht : (es'.modify C.length fun e => { e with key := k, val := v' }).toList = C ++ { e' with key := k, val := v' } :: D := by
  rw [Array.toList_modify, h2, zHe]
 refine ⟨⟨A' ++ { e' with key := k, val := v' } :: B', by rw [ht]; exact List.perm_middle.trans ((h3.cons _).trans List.perm_middle.symm), ha.append (.cons _ _ _ _ hk hv hb)⟩, fun x hx => ?_, ?_⟩
 ·rw [ht] at hx
  have hl := h.lt
  rw [h2] at hl
  rcases List.mem_append.1 hx with hx | hx
  ·exact hl x (by simp [hx])
  ·rcases List.mem_cons.1 hx with rfl | hx
   ·exact hl e' (by simp)
   ·exact hl x (by simp [hx])
 ·have hn := h.nd
  rw [h2] at hn
  rw [ht]
  simpa using hn
theorem MP.del {E : Env} {es' : Array MapEntry} {ck : Nat} {A B A' B' C D : List MapEntry} {e' : MapEntry} {es : List MapEntry} (h : MP E es es' ck) (h2 : es'.toList = C ++ e' :: D) (h3 : (A' ++ B').Perm (C ++ D)) (ha : ML E A A') (hb : ML E B B') :
  MP E (A ++ B) (es'.eraseIdxIfInBounds C.length) ck := by
 have ht : (es'.eraseIdxIfInBounds C.length).toList = C ++ D := by
  have hs : C.length < es'.size := by rw [← Array.length_toList, h2]; simp
  unfold Array.eraseIdxIfInBounds
  rw [dif_pos hs, Array.toList_eraseIdx, h2, zIt]
 have hsub : ∀ x ∈ C ++ D, x ∈ es'.toList := fun x hx => by
  rw [h2]; rcases List.mem_append.1 hx with h | h <;> simp [h]
 refine ⟨⟨A' ++ B', by rw [ht]; exact h3, ha.append hb⟩, fun x hx => h.lt x (hsub x (by rw [← ht]; exact hx)), ?_⟩
 have hn := h.nd
 rw [h2, List.map_append, List.map_cons] at hn
 rw [ht, List.map_append]
 exact ((List.perm_middle.nodup_iff).1 hn).of_cons
def zEi (P : Program) (t : TypeId) (m k v : Value) (G : Gh) : ORes :=
 match P.underlying t, m with
 | some (.map kt _), .map (some r) =>
  (match G r, P.underlying kt with
  | some (.map es ck), some _ =>
   bif zAe es && keyOk P kt false k then
    (match zCj P kt k es 0 with
    | some (some (i, _)) => bif Instr.sameBits 10000 (((es[i]?).map (·.key)).getD k) k then .val undef [(r, some (.map (modE es i k v) ck))] 0 else .bad "mapUpdate: bits"
    | some none => .val undef [(r, some (.map (es ++ [{ key := k, val := v, born := 0 }]) (ck + 1)))] 0
    | none => .bad "mapUpdate: find")
   else .bad "mapUpdate: key"
  | _, _ => .bad "mapUpdate: no map")
 | _, _ => .bad "mapUpdate"
theorem zIk (w : World) {r : Nat} {ob o' : Obj} (hb : w.heap[r]? = some ob) : let w' : World := { w with heap := w.heap.setIfInBounds r o' }
  (w'.os = w.os ∧ w'.tape = w.tape ∧ w'.output = w.output ∧ w'.heap.size = w.heap.size) ∧ w'.heap[r]? = some o' ∧ ∀ k, k ≠ r → w'.heap[k]? = w.heap[k]? := by
 have hlt : r < w.heap.size := (Array.getElem?_eq_some_iff.1 hb).1
 exact ⟨⟨rfl, rfl, rfl, by simp⟩, by simp [hlt], fun r' hne => by simp [Ne.symm hne]⟩
theorem zGw {P : Program} {E : Env} {G : Gh} {n : Nat} {w : World} (h : HR P E G w) (t : TypeId) (x y z : Operand) {ev : Operand → Value} {m k v : Value} {o : Oper} (ho : o.op = .mapUpdate t x y z ∨ o.op = .insert t x y z) (hm : VR E m (ev x)) (hk : VR E k (ev y)) (hv : VR E v (ev z)) :
  Sound1 P E G n w ((execOp ev o).run P w) (zEi P t m k v G) := by
 unfold zEi
 split
 ·rename_i kt et r hu
  have hev : ev x = .map (some (E.ρ r)) := by cases hv' : ev x <;> rw [hv'] at hm <;> cases hm; rfl
  split
  ·rename_i es ck d hg hd
   obtain ⟨es', h1, h2⟩ := h.obj r _ hg
   cases hc : (zAe es && keyOk P kt false k) with
   | false => trivial
   | true =>
    simp only [Bool.and_eq_true] at hc
    obtain ⟨hp, hck⟩ := zHb hc.2
    have hky : ev y = k := zBw 8 hp hk
    have hkr : VR E k k := zAg 8 hp
    simp only [cond_true]
    have hset : ∀ o' : Obj, (setObj (E.ρ r) o').run P w = .ok () { w with heap := w.heap.setIfInBounds (E.ρ r) o' } := fun o' => by simp [setObj, Sem.run, h1]
    have run0 : ∀ (w' : World), (Instr.mapUpdate t (.map (some (E.ρ r))) k (ev z)).run P w = .ok () w' → (execOp ev o).run P w = .ok .skip w' := fun w' hr => by
     rcases ho with ho | ho <;> simp [execOp, ho, hev, hky, hr]
    cases hf : zCj P kt k es 0 with
    | none => trivial
    | some f =>
     obtain ⟨q, hq, hr⟩ := find_a hd w h2 hc.1 hf
     cases hr with
     | none =>
      obtain ⟨p1, p2, p3⟩ := zIk w (o' := .map (es'.push { key := k, val := ev z, born := ck }) (ck + 1)) h1
      obtain ⟨k1, k2⟩ := h.put hg (o' := .map (es ++ [{ key := k, val := v, born := 0 }]) (ck + 1)) p1 p3 ⟨_, p2, h2.push hkr hv⟩
      refine fun _ => ⟨.skip, _, E, run0 _ ?_, .inr ⟨rfl, rfl⟩, dom0, k1, k2, fun u hu hl => by simp at hu; subst hu; rw [hg]; simp⟩
      simp [Instr.mapUpdate, run_underlying hu, zCb h1, hck, hq, hset]
     | some A B e e' A' B' C D q1 q2 q3 ha hb hke hv0 =>
      simp only []
      have hat : ((es[A.length]?).map (·.key)).getD k = e.key := by rw [q1]; simp
      rw [hat]
      cases hs : Instr.sameBits 10000 e.key k with
      | false => trivial
      | true =>
       have hold : ((es'[C.length]?).map (·.key)).getD k = e.key := by
        rw [show es'[C.length]? = es'.toList[C.length]? by simp, q2]; simp [hke]
       have hmod : modE es A.length k v = A ++ { e with key := k, val := v } :: B := by unfold modE; rw [q1, zHe]
       obtain ⟨p1, p2, p3⟩ := zIk w (o' := .map (es'.modify C.length fun e => { e with key := k, val := ev z }) ck) h1
       obtain ⟨k1, k2⟩ := h.put hg (o' := .map (modE es A.length k v) ck) p1 p3 ⟨_, p2, by rw [hmod]; exact h2.mod q2 q3 ha hb hkr hv⟩
       refine fun _ => ⟨.skip, _, E, run0 _ ?_, .inr ⟨rfl, rfl⟩, dom0, k1, k2, fun u hu hl => by simp at hu; subst hu; rw [hg]; simp⟩
       have hstay : (Instr.keyThatStays (((es'[C.length]?).map (·.key)).getD k) k).run P w = .ok k w := by
        rw [hold]; simp [Instr.keyThatStays, hs]
       simp [Instr.mapUpdate, run_underlying hu, zCb h1, hck, hq, hset, hstay]
  ·trivial
 ·trivial
def zLg (P : Program) (t : TypeId) (m k : Value) (G : Gh) : ORes :=
 match P.underlying t, m with
 | some (.map kt _), .map (some r) =>
  (match G r, P.underlying kt with
  | some (.map es ck), some _ =>
   bif zAe es && keyOk P kt es.isEmpty k then
    (match zCj P kt k es 0 with
    | some (some (i, _)) => .val (.tuple #[]) [(r, some (.map (es.eraseIdx i) ck))] 0
    | some none => .val (.tuple #[]) [(r, some (.map es ck))] 0
    | none => .bad "delete: find")
   else .bad "delete: key"
  | _, _ => .bad "delete: no map")
 | _, _ => .bad "delete"
theorem zRq {P : Program} {E : Env} {G : Gh} {n : Nat} {w : World} (h : HR P E G w) (t xT ty : TypeId) {m m' k k' : Value} (hm : VR E m m') (hk : VR E k k') :
  Sound1 P E G n w (((Builtin.delete_ #[t, xT] ty #[m', k']).run P w).andThen fun v w' => .ok (.value v) w') (zLg P t m k G) := by
 unfold zLg
 split
 ·rename_i kt et r hu
  have hev : m' = .map (some (E.ρ r)) := by cases hm; rfl
  subst hev
  split
  ·rename_i es ck d hg hd
   obtain ⟨es', h1, h2⟩ := h.obj r _ hg
   cases hc : (zAe es && keyOk P kt es.isEmpty k) with
   | false => trivial
   | true =>
    simp only [Bool.and_eq_true] at hc
    obtain ⟨hp, hck⟩ := zHb hc.2
    have hky : k' = k := zBw 8 hp hk
    subst hky
    have hem : es'.isEmpty = es.isEmpty := h2.isEmpty
    simp only [cond_true]
    have hset : ∀ o' : Obj, (setObj (E.ρ r) o').run P w = .ok () { w with heap := w.heap.setIfInBounds (E.ρ r) o' } := fun o' => by simp [setObj, Sem.run, h1]
    cases hf : zCj P kt k' es 0 with
    | none => trivial
    | some f =>
     obtain ⟨q, hq, hr⟩ := find_a hd w h2 hc.1 hf
     cases hr with
     | none =>
      obtain ⟨p1, p2, p3⟩ := zIk w (o' := .map es' ck) h1
      obtain ⟨k1, k2⟩ := h.put hg (o' := .map es ck) p1 p3 ⟨_, p2, h2⟩
      refine fun _ => ⟨.value (.tuple #[]), _, E, ?_, .inl ⟨_, rfl, .tuple _ _ .nil⟩, dom0, k1, k2, fun u hu hl => by simp at hu; subst hu; rw [hg]; simp⟩
      simp [Builtin.delete_, run_underlying hu, zCb h1, hem, hck, hq, hset]
     | some A B e e' A' B' C D q1 q2 q3 ha hb hke hv0 =>
      obtain ⟨p1, p2, p3⟩ := zIk w (o' := .map (es'.eraseIdxIfInBounds C.length) ck) h1
      obtain ⟨k1, k2⟩ := h.put hg (o' := .map (es.eraseIdx A.length) ck) p1 p3 ⟨_, p2, by rw [q1, zIt]; exact h2.del q2 q3 ha hb⟩
      refine fun _ => ⟨.value (.tuple #[]), _, E, ?_, .inl ⟨_, rfl, .tuple _ _ .nil⟩, dom0, k1, k2, fun u hu hl => by simp at hu; subst hu; rw [hg]; simp⟩
      simp [Builtin.delete_, run_underlying hu, zCb h1, hem, hck, hq, hset]
  ·trivial
 ·trivial
def aRange (P : Program) (t : TypeId) (v : Value) (G : Gh) (n : Nat) : ORes :=
 match P.underlying t, v with
 | some (.map _ _), .map (some r) => (match G r with | some (.map _ ck) => .val (.pointer (some ⟨n, 0, none⟩)) [(n, some (.mit r ck))] 1 | _ => .bad "range: no map")
 | _, _ => .bad "range"
theorem aRange_ok {P : Program} {E : Env} {G : Gh} {n : Nat} {w : World} (h : HR P E G w) (t : TypeId) (x : Operand) {ev : Operand → Value} {v : Value} {o : Oper} (ho : o.op = .range t x) (hv : VR E v (ev x)) :
  Sound1 P E G n w ((execOp ev o).run P w) (aRange P t v G n) := by
 unfold aRange
 split
 ·rename_i kt et r hu
  have hev : ev x = .map (some (E.ρ r)) := by cases hv' : ev x <;> rw [hv'] at hv <;> cases hv; rfl
  split
  ·rename_i es ck hg
   obtain ⟨es', h1, h2⟩ := h.obj r _ hg
   have hl := h.live (id := r) (by rw [hg]; simp)
   refine Sound1.new h (.mapIter (some (E.ρ r)) ck #[] ck) _ 0 0 ?_ (fun hn => ?_) zPg
   ·simp [execOp, ho, hev, Instr.range, run_underlying hu, zCb h1]
   ·have hx := Env.push_ext hn w.heap.size 0 0
    refine ⟨?_, hx.n r hl, Env.push_sh _ _ _ _ _⟩
    rw [Env.push_ρ, hx.ρ r hl]; exact heap_alloc_new w _
  ·trivial
 ·trivial
end Go.Proofs.Ytpdeidlkeplegaa
