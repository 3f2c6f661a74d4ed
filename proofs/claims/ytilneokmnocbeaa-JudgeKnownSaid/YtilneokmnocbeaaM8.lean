/- DERIVED. The machine M, eighth part: maps; comparing with nil; the operations together. -/
import Derived.Test.YtilneokmnocbeaaM7
import Derived.WalkSpells
import Derived.WideLaws
import Derived.LaidEql
import Derived.LaidEqlPtr
namespace Go.Proofs.Ytilneokmnocbeaa
open Go.RowKit

/-! ## makeMap -/
def aMakeMap (n : Nat) (r : Option Value) : ORes := match r with | none => .val (.map (some n)) [(n, some (.map [] 0))] 1 | some _ => .bad "makeMap: hint"
theorem map_new {E : Env} {m b t s : Nat} : VR (E.push m b t s) (.map (some m)) (.map (some b)) := by
  have := VR.map (E := E.push m b t s) m (E.push_dom m b t s)
  rwa [Env.push_ρ] at this
theorem aMakeMap_ok {P : Program} {E : Env} {G : Gh} {n : Nat} {w : World} (h : HR P E G w) (t : TypeId) (r : Option Operand) {ev ev' : Operand → Value} {o : Oper} (ho : o.op = .makeMap t r) :
    Sound1 P E G n w ((execOp ev' o).run P w) (aMakeMap n (r.map ev)) := by
  cases r with
  | some r => trivial
  | none =>
    refine Sound1.new h (.map #[] 0) _ 0 0 ?_ (fun _ => ⟨#[], by rw [Env.push_ρ]; exact heap_alloc_new w _, .nil⟩) map_new
    simp [execOp, ho, Instr.makeMap]

/-! ## finding a key -/
def aFind (P : Program) (kt : TypeId) (k : Value) : List MapEntry → Nat → Option (Option (Nat × Value))
  | [], _ => some none
  | e :: es, i =>
    match pureR P (Op.equal kt k e.key) with
    | .ok true => some (some (i, e.val))
    | .ok false => aFind P kt k es (i + 1)
    | _ => none

inductive FR (E : Env) : Option (Nat × Value) → Option (Nat × Value) → Prop
  | none : FR E none none
  | some (i : Nat) (v v' : Value) (h : VR E v v') : FR E (some (i, v)) (some (i, v'))

def plainKeys (es : List MapEntry) : Bool := es.all fun e => plainV 8 e.key

theorem same_equal {P : Program} {kt : TypeId} {d : TypeDesc} {k key : Value} {b : Bool} (hd : P.underlying kt = some d) (h : Instr.sameNow d k key = some b) : pureR P (Op.equal kt k key) = .ok b := by
  unfold Op.equal Op.maxDepth Op.equalIn
  simp only [pureR_bind, pureR_underlying hd, PRes.bind_ok]
  cases d <;> cases k <;> cases key <;> simp [Instr.sameNow] at h ⊢
  case int.int.int =>
    obtain ⟨h1, h2⟩ := h
    simp [h1, h2]
  all_goals exact h

theorem findNow_a {P : Program} {E : Env} {kt : TypeId} {d : TypeDesc} {k : Value} (hd : P.underlying kt = some d) : ∀ {es es' : List MapEntry} {i : Nat} {q : Option (Nat × Value)} {r : Option (Nat × Value)},
    ML E es es' → plainKeys es = true → Instr.findNow d k es' i = some q → aFind P kt k es i = some r → FR E r q
  | _, _, i, q, r, .nil, _, h1, h2 => by simp [Instr.findNow] at h1; simp [aFind] at h2; subst h1; subst h2; exact .none
  | _, _, i, q, r, .cons e e' l l' hk hv hb ht, hp, h1, h2 => by
    simp only [plainKeys, List.all_cons, Bool.and_eq_true] at hp
    have he : e'.key = e.key := plain_eq 8 hp.1 hk
    simp only [Instr.findNow, he] at h1
    simp only [aFind] at h2
    cases hs : Instr.sameNow d k e.key with
    | none => simp [hs] at h1
    | some b =>
      rw [same_equal hd hs] at h2
      cases b with
      | true => simp [hs] at h1; simp at h2; subst h1; subst h2; exact .some _ _ _ hv
      | false => simp [hs] at h1; simp at h2; exact findNow_a hd ht hp.2 h1 h2

theorem findAsking_a {P : Program} {E : Env} {kt : TypeId} {k : Value} (w : World) : ∀ {es es' : List MapEntry} {i : Nat} {r : Option (Nat × Value)},
    ML E es es' → plainKeys es = true → aFind P kt k es i = some r → ∃ q, (Instr.findAsking kt k es' i).run P w = .ok q w ∧ FR E r q
  | _, _, i, r, .nil, _, h2 => by simp [aFind] at h2; subst h2; exact ⟨none, by simp [Instr.findAsking], .none⟩
  | _, _, i, r, .cons e e' l l' hk hv hb ht, hp, h2 => by
    simp only [plainKeys, List.all_cons, Bool.and_eq_true] at hp
    have he : e'.key = e.key := plain_eq 8 hp.1 hk
    simp only [aFind] at h2
    cases hs : pureR P (Op.equal kt k e.key) with
    | ok b =>
      have hr := pureR_ok hs w
      rw [hs] at h2
      cases b with
      | true => simp at h2; subst h2; exact ⟨some (i, e'.val), by simp [Instr.findAsking, he, hr], .some _ _ _ hv⟩
      | false =>
        simp at h2
        obtain ⟨q, h3, h4⟩ := findAsking_a w ht hp.2 h2
        exact ⟨q, by simp [Instr.findAsking, he, hr, h3], h4⟩
    | pan v => simp [hs] at h2
    | no => simp [hs] at h2

theorem find_a {P : Program} {E : Env} {kt : TypeId} {d : TypeDesc} {k : Value} (hd : P.underlying kt = some d) (w : World) {es es' : List MapEntry} {r : Option (Nat × Value)} (hm : ML E es es') (hp : plainKeys es = true) (h : aFind P kt k es 0 = some r) :
    ∃ q, (Instr.findKey kt k es').run P w = .ok q w ∧ FR E r q := by
  simp only [Instr.findKey, Sem.run_bind, run_underlying hd, Result.andThen_ok]
  cases hn : Instr.findNow d k es' 0 with
  | some q => exact ⟨q, rfl, findNow_a hd hm hp hn h⟩
  | none => exact findAsking_a w hm hp h

def keyOk (P : Program) (kt : TypeId) (em : Bool) (k : Value) : Bool := plainV 8 k && (match pureR P (Instr.checkKey em 10000 kt k) with | .ok _ => true | _ => false)
theorem keyOk_spec {P : Program} {kt : TypeId} {em : Bool} {k : Value} (h : keyOk P kt em k = true) : plainV 8 k = true ∧ ∀ w, (Instr.checkKey em 10000 kt k).run P w = .ok () w := by
  simp only [keyOk, Bool.and_eq_true] at h
  refine ⟨h.1, fun w => ?_⟩
  cases hp : pureR P (Instr.checkKey em 10000 kt k) with
  | ok a => exact pureR_ok hp w
  | pan v => simp [hp] at h
  | no => simp [hp] at h

/-! ## lookup -/
def aLookup (P : Program) (t : TypeId) (m k : Value) (ok : Bool) (G : Gh) : ORes :=
  match P.underlying t, m with
  | some (.map kt et), .map (some r) =>
    (match G r, P.underlying kt with
    | some (.map es _), some _ =>
      bif plainKeys es && keyOk P kt es.isEmpty k then
        (match aFind P kt k es 0 with
        | some (some (_, v)) => .val (bif ok then .tuple #[v, .bool true] else v) [] 0
        | some none => (match P.info? et with
          | some i => (match i.zero with
            | some z => bif plainV 8 z then .val (bif ok then .tuple #[z, .bool false] else z) [] 0 else .bad "lookup: zero"
            | none => .bad "lookup: no zero")
          | none => .bad "lookup: no type")
        | none => .bad "lookup: find")
      else .bad "lookup: key"
    | _, _ => .bad "lookup: no map")
  | _, _ => .bad "lookup"
theorem ML.isEmpty {E : Env} {l l' : List MapEntry} (h : ML E l l') : l'.isEmpty = l.isEmpty := by cases h <;> rfl
theorem aLookup_ok {P : Program} {E : Env} {G : Gh} {n : Nat} {w : World} (h : HR P E G w) (t : TypeId) (x y : Operand) (ok : Bool) {ev : Operand → Value} {m k : Value} {o : Oper} (ho : o.op = .lookup t x y ok) (hm : VR E m (ev x)) (hk : VR E k (ev y)) :
    Sound1 P E G n w ((execOp ev o).run P w) (aLookup P t m k ok G) := by
  unfold aLookup
  split
  · rename_i kt et r hu
    have hev : ev x = .map (some (E.ρ r)) := by cases hv' : ev x <;> rw [hv'] at hm <;> cases hm; rfl
    split
    · rename_i es ck d hg hd
      obtain ⟨es', h1, h2⟩ := h.obj r _ hg
      cases hc : (plainKeys es && keyOk P kt es.isEmpty k) with
      | false => trivial
      | true =>
        simp only [Bool.and_eq_true] at hc
        obtain ⟨hp, hck⟩ := keyOk_spec hc.2
        have hky : ev y = k := plain_eq 8 hp hk
        simp only [cond_true]
        have hem : es'.isEmpty = es.isEmpty := by rw [← h2.isEmpty]; simp
        cases hf : aFind P kt k es 0 with
        | none => trivial
        | some f =>
          obtain ⟨q, hq, hr⟩ := find_a hd w h2 hc.1 hf
          cases hr with
          | none =>
            simp only []
            cases hi : P.info? et with
            | none => trivial
            | some i =>
              simp only []
              cases hz : i.zero with
              | none => trivial
              | some z =>
                simp only []
                cases hpz : plainV 8 z with
                | false => trivial
                | true =>
                  cases ok
                  · refine Sound1.pure h (v' := z) ?_ (plain_refl 8 hpz)
                    simp [execOp, ho, hev, hky, Instr.lookup, run_underlying hu, run_getM h1, hem, hck, hq, zeroValue, typeInfo, hi, hz]
                  · refine Sound1.pure h (v' := .tuple #[z, .bool false]) ?_ (.tuple _ _ (.cons _ _ _ _ (plain_refl 8 hpz) (.cons _ _ _ _ (.bool _) .nil)))
                    simp [execOp, ho, hev, hky, Instr.lookup, run_underlying hu, run_getM h1, hem, hck, hq, zeroValue, typeInfo, hi, hz]
          | some i v v' hv =>
            cases ok
            · refine Sound1.pure h (v' := v') ?_ hv
              simp [execOp, ho, hev, hky, Instr.lookup, run_underlying hu, run_getM h1, hem, hck, hq]
            · refine Sound1.pure h (v' := .tuple #[v', .bool true]) ?_ (.tuple _ _ (.cons _ _ _ _ hv (.cons _ _ _ _ (.bool _) .nil)))
              simp [execOp, ho, hev, hky, Instr.lookup, run_underlying hu, run_getM h1, hem, hck, hq]
    · trivial
  · trivial

/-! ## mapUpdate, delete -/
def modE (es : List MapEntry) (i : Nat) (k v : Value) : List MapEntry := es.modify i fun e => { e with key := k, val := v }
theorem ML.modify {E : Env} {k v v' : Value} (hk : VR E k k) (hv : VR E v v') : ∀ {l l' : List MapEntry}, ML E l l' → ∀ i, ML E (modE l i k v) (modE l' i k v')
  | _, _, .nil, i => by cases i <;> exact .nil
  | _, _, .cons e e' l l' h1 h2 h3 ht, 0 => .cons _ _ _ _ hk hv h3 ht
  | _, _, .cons e e' l l' h1 h2 h3 ht, i + 1 => .cons _ _ _ _ h1 h2 h3 (ML.modify hk hv ht i)
theorem ML.append {E : Env} {a a' b b' : List MapEntry} (h : ML E a a') (k : ML E b b') : ML E (a ++ b) (a' ++ b') := by
  induction h with
  | nil => exact k
  | cons e e' l l' h1 h2 h3 ht ih => exact .cons _ _ _ _ h1 h2 h3 ih
theorem ML.at {E : Env} : ∀ {l l' : List MapEntry}, ML E l l' → ∀ i : Nat, (l'[i]? = none ∧ l[i]? = none) ∨ ∃ e e' : MapEntry, l[i]? = some e ∧ l'[i]? = some e' ∧ VR E e.key e'.key
  | _, _, .nil, _ => .inl ⟨by simp, by simp⟩
  | _, _, .cons e e' l l' h1 h2 h3 ht, 0 => .inr ⟨e, e', rfl, rfl, h1⟩
  | _, _, .cons e e' l l' h1 h2 h3 ht, i + 1 => by simpa using ML.at ht i

def aUpdate (P : Program) (t : TypeId) (m k v : Value) (G : Gh) : ORes :=
  match P.underlying t, m with
  | some (.map kt _), .map (some r) =>
    (match G r, P.underlying kt with
    | some (.map es ck), some _ =>
      bif plainKeys es && keyOk P kt false k then
        (match aFind P kt k es 0 with
        | some (some (i, _)) => bif Instr.sameBits 10000 (((es[i]?).map (·.key)).getD k) k then .val undef [(r, some (.map (modE es i k v) ck))] 0 else .bad "mapUpdate: bits"
        | some none => .val undef [(r, some (.map (es ++ [{ key := k, val := v, born := ck }]) (ck + 1)))] 0
        | none => .bad "mapUpdate: find")
      else .bad "mapUpdate: key"
    | _, _ => .bad "mapUpdate: no map")
  | _, _ => .bad "mapUpdate"

theorem put_rest (w : World) {r : Nat} {ob o' : Obj} (hb : w.heap[r]? = some ob) : let w' : World := { w with heap := w.heap.setIfInBounds r o' }
    (w'.os = w.os ∧ w'.tape = w.tape ∧ w'.output = w.output ∧ w'.heap.size = w.heap.size) ∧ w'.heap[r]? = some o' ∧ ∀ k, k ≠ r → w'.heap[k]? = w.heap[k]? := by
  have hlt : r < w.heap.size := (Array.getElem?_eq_some_iff.1 hb).1
  exact ⟨⟨rfl, rfl, rfl, by simp⟩, by simp [hlt], fun r' hne => by simp [Ne.symm hne]⟩

theorem aUpdate_ok {P : Program} {E : Env} {G : Gh} {n : Nat} {w : World} (h : HR P E G w) (t : TypeId) (x y z : Operand) {ev : Operand → Value} {m k v : Value} {o : Oper} (ho : o.op = .mapUpdate t x y z ∨ o.op = .insert t x y z) (hm : VR E m (ev x)) (hk : VR E k (ev y)) (hv : VR E v (ev z)) :
    Sound1 P E G n w ((execOp ev o).run P w) (aUpdate P t m k v G) := by
  unfold aUpdate
  split
  · rename_i kt et r hu
    have hev : ev x = .map (some (E.ρ r)) := by cases hv' : ev x <;> rw [hv'] at hm <;> cases hm; rfl
    split
    · rename_i es ck d hg hd
      obtain ⟨es', h1, h2⟩ := h.obj r _ hg
      cases hc : (plainKeys es && keyOk P kt false k) with
      | false => trivial
      | true =>
        simp only [Bool.and_eq_true] at hc
        obtain ⟨hp, hck⟩ := keyOk_spec hc.2
        have hky : ev y = k := plain_eq 8 hp hk
        have hkr : VR E k k := plain_refl 8 hp
        simp only [cond_true]
        have hset : ∀ o' : Obj, (setObj (E.ρ r) o').run P w = .ok () { w with heap := w.heap.setIfInBounds (E.ρ r) o' } := fun o' => by simp [setObj, Sem.run, h1]
        have run0 : ∀ (w' : World), (Instr.mapUpdate t (.map (some (E.ρ r))) k (ev z)).run P w = .ok () w' → (execOp ev o).run P w = .ok .skip w' := fun w' hr => by
          rcases ho with ho | ho <;> simp [execOp, ho, hev, hky, hr]
        cases hf : aFind P kt k es 0 with
        | none => trivial
        | some f =>
          obtain ⟨q, hq, hr⟩ := find_a hd w h2 hc.1 hf
          cases hr with
          | none =>
            obtain ⟨p1, p2, p3⟩ := put_rest w (o' := .map (es'.push { key := k, val := ev z, born := ck }) (ck + 1)) h1
            obtain ⟨k1, k2⟩ := h.put hg (o' := .map (es ++ [{ key := k, val := v, born := ck }]) (ck + 1)) p1 p3 ⟨_, p2, by simpa using h2.append (.cons { key := k, val := v, born := ck } { key := k, val := ev z, born := ck } [] [] hkr hv rfl .nil)⟩
            refine fun _ => ⟨.skip, _, E, run0 _ ?_, .inr ⟨rfl, rfl⟩, dom0, k1, k2, fun u hu hl => by simp at hu; subst hu; rw [hg]; simp⟩
            simp [Instr.mapUpdate, run_underlying hu, run_getM h1, hck, hq, hset]
          | some i v0 v0' hv0 =>
            simp only []
            cases hs : Instr.sameBits 10000 (((es[i]?).map (·.key)).getD k) k with
            | false => trivial
            | true =>
              have hold : ((es'[i]?).map (·.key)).getD k = ((es[i]?).map (·.key)).getD k := by
                rcases h2.at i with ⟨e1, e2⟩ | ⟨e, e', e1, e2, e3⟩
                · rw [e2]; rw [show es'[i]? = es'.toList[i]? by simp]; rw [e1]
                · have : e'.key = e.key := plain_eq 8 (List.all_eq_true.1 hc.1 e (List.mem_of_getElem? e1)) e3
                  rw [e1, show es'[i]? = es'.toList[i]? by simp, e2]; simp [this]
              obtain ⟨p1, p2, p3⟩ := put_rest w (o' := .map (es'.modify i fun e => { e with key := k, val := ev z }) ck) h1
              obtain ⟨k1, k2⟩ := h.put hg (o' := .map (modE es i k v) ck) p1 p3 ⟨_, p2, by simpa [modE] using h2.modify hkr hv i⟩
              refine fun _ => ⟨.skip, _, E, run0 _ ?_, .inr ⟨rfl, rfl⟩, dom0, k1, k2, fun u hu hl => by simp at hu; subst hu; rw [hg]; simp⟩
              have hstay : (Instr.keyThatStays (((es'[i]?).map (·.key)).getD k) k).run P w = .ok k w := by
                rw [hold]; simp [Instr.keyThatStays, hs]
              simp [Instr.mapUpdate, run_underlying hu, run_getM h1, hck, hq, hset, hstay]
    · trivial
  · trivial

theorem ML.erase {E : Env} : ∀ {l l' : List MapEntry}, ML E l l' → ∀ i, ML E (l.eraseIdx i) (l'.eraseIdx i)
  | _, _, .nil, _ => .nil
  | _, _, .cons e e' l l' _ _ _ ht, 0 => ht
  | _, _, .cons e e' l l' h1 h2 h3 ht, i + 1 => .cons _ _ _ _ h1 h2 h3 (ML.erase ht i)

def aDelete (P : Program) (t : TypeId) (m k : Value) (G : Gh) : ORes :=
  match P.underlying t, m with
  | some (.map kt _), .map (some r) =>
    (match G r, P.underlying kt with
    | some (.map es ck), some _ =>
      bif plainKeys es && keyOk P kt es.isEmpty k then
        (match aFind P kt k es 0 with
        | some (some (i, _)) => .val (.tuple #[]) [(r, some (.map (es.eraseIdx i) ck))] 0
        | some none => .val (.tuple #[]) [(r, some (.map es ck))] 0
        | none => .bad "delete: find")
      else .bad "delete: key"
    | _, _ => .bad "delete: no map")
  | _, _ => .bad "delete"
theorem aDelete_ok {P : Program} {E : Env} {G : Gh} {n : Nat} {w : World} (h : HR P E G w) (t xT ty : TypeId) {m m' k k' : Value} (hm : VR E m m') (hk : VR E k k') :
    Sound1 P E G n w (((Builtin.delete_ #[t, xT] ty #[m', k']).run P w).andThen fun v w' => .ok (.value v) w') (aDelete P t m k G) := by
  unfold aDelete
  split
  · rename_i kt et r hu
    have hev : m' = .map (some (E.ρ r)) := by cases hm; rfl
    subst hev
    split
    · rename_i es ck d hg hd
      obtain ⟨es', h1, h2⟩ := h.obj r _ hg
      cases hc : (plainKeys es && keyOk P kt es.isEmpty k) with
      | false => trivial
      | true =>
        simp only [Bool.and_eq_true] at hc
        obtain ⟨hp, hck⟩ := keyOk_spec hc.2
        have hky : k' = k := plain_eq 8 hp hk
        subst hky
        have hem : es'.isEmpty = es.isEmpty := by rw [← h2.isEmpty]; simp
        simp only [cond_true]
        have hset : ∀ o' : Obj, (setObj (E.ρ r) o').run P w = .ok () { w with heap := w.heap.setIfInBounds (E.ρ r) o' } := fun o' => by simp [setObj, Sem.run, h1]
        cases hf : aFind P kt k' es 0 with
        | none => trivial
        | some f =>
          obtain ⟨q, hq, hr⟩ := find_a hd w h2 hc.1 hf
          cases hr with
          | none =>
            obtain ⟨p1, p2, p3⟩ := put_rest w (o' := .map es' ck) h1
            obtain ⟨k1, k2⟩ := h.put hg (o' := .map es ck) p1 p3 ⟨_, p2, h2⟩
            refine fun _ => ⟨.value (.tuple #[]), _, E, ?_, .inl ⟨_, rfl, .tuple _ _ .nil⟩, dom0, k1, k2, fun u hu hl => by simp at hu; subst hu; rw [hg]; simp⟩
            simp [Builtin.delete_, run_underlying hu, run_getM h1, hem, hck, hq, hset]
          | some i v0 v0' hv0 =>
            obtain ⟨p1, p2, p3⟩ := put_rest w (o' := .map (es'.eraseIdxIfInBounds i) ck) h1
            have hl : (es'.eraseIdxIfInBounds i).toList = es'.toList.eraseIdx i := by
              unfold Array.eraseIdxIfInBounds
              split
              · simp
              · rename_i hn; rw [List.eraseIdx_of_length_le (by simpa using hn)]
            obtain ⟨k1, k2⟩ := h.put hg (o' := .map (es.eraseIdx i) ck) p1 p3 ⟨_, p2, by rw [hl]; exact h2.erase i⟩
            refine fun _ => ⟨.value (.tuple #[]), _, E, ?_, .inl ⟨_, rfl, .tuple _ _ .nil⟩, dom0, k1, k2, fun u hu hl => by simp at hu; subst hu; rw [hg]; simp⟩
            simp [Builtin.delete_, run_underlying hu, run_getM h1, hem, hck, hq, hset]
    · trivial
  · trivial
end Go.Proofs.Ytilneokmnocbeaa
