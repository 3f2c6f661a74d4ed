/- DERIVED. Texts put together: M2. -/
import Derived.Laws.IdiomCopy
import Derived.RangeFuncRecord
import Derived.Test.YtpdeidlkeplegaaZ1
set_option maxRecDepth 1000000
set_option maxHeartbeats 32000000
namespace Go.Proofs.Ytpdeidlkeplegaa
open Go.RowKit
structure ALoop where
 state : LoopState
 pend : Option Code
 T : Tr Value
 nt : Nat
 params : Array Tmp
 assign : Code
 body : Code
 defs : Nat
inductive AObj where
 | cells (c : List Value) (elem : TypeId)
 | map (es : List MapEntry) (clock : Nat)
 | loop (r : ALoop)
 | defs
 | it (s : ByteArray) (pos : Nat)
 | mit (m since : Nat)
 | win (c : List Value) (z : Nat)
def AObj.look : AObj → Option (List Value)
 | .cells c _ => some c
 | .win c _ => some c
 | _ => none
def AObj.isWin : AObj → Prop
 | .win _ _ => True
 | _ => False
abbrev Gh := Nat → Option AObj
inductive ML (E : Env) : List MapEntry → List MapEntry → Prop
 | nil : ML E [] []
 | cons (e e' : MapEntry) (l l' : List MapEntry) (hk : VR E e.key e'.key) (hv : VR E e.val e'.val) (t : ML E l l') : ML E (e :: l) (e' :: l')
theorem ML.ext {E E' : Env} (x : Ext E E') {l l' : List MapEntry} (h : ML E l l') : ML E' l l' := by
 induction h with
 | nil => exact .nil
 | cons e e' l l' hk hv t ih => exact .cons e e' l l' (hk.ext x) (hv.ext x) ih
structure MP (E : Env) (es : List MapEntry) (es' : Array MapEntry) (k : Nat) : Prop where
 perm : ∃ l : List MapEntry, l.Perm es'.toList ∧ ML E es l
 lt : ∀ x ∈ es'.toList, x.born < k
 nd : (es'.toList.map (·.born)).Nodup
theorem MP.ext {E E' : Env} (x : Ext E E') {es : List MapEntry} {es' : Array MapEntry} {k : Nat} (h : MP E es es' k) : MP E' es es' k :=
 ⟨h.perm.elim fun l ⟨h1, h2⟩ => ⟨l, h1, h2.ext x⟩, h.lt, h.nd⟩
def TR (E : Env) (T : Tr Value) (nt : Nat) (a : Array Value) : Prop := a.size = nt ∧ ∀ t, VR E ((T.get t).getD undef) (a.getD t undef)
theorem TR.ext {E E' : Env} (x : Ext E E') {T : Tr Value} {nt : Nat} {a : Array Value} (h : TR E T nt a) : TR E' T nt a := ⟨h.1, fun t => (h.2 t).ext x⟩
def restOK (P : Program) (e : TypeId) (l : List Value) : Prop := P.underlying e = some (.int .u8) → ∀ i z, P.info? e = some i → i.zero = some z → z.cells = #[.int .u8 0] → ∀ v ∈ l, ∃ n, v = .int .u8 n
theorem restOK.nil {P : Program} {e : TypeId} {l : List Value} (h : l = []) : restOK P e l := fun _ _ _ _ _ _ v hv => by subst h; cases hv
theorem restOK.drop {P : Program} {e : TypeId} {l : List Value} (h : restOK P e l) (m : Nat) : restOK P e (l.drop m) := fun h0 i z h1 h2 h3 v hv => h h0 i z h1 h2 h3 v (List.mem_of_mem_drop hv)
def OR (P : Program) (E : Env) (w : World) (id : Nat) : AObj → Prop
 | .cells c e => ∃ arr fr, w.heap[E.ρ id]? = some (.cells arr e fr) ∧ (fr = (0, 0) ∨ (arr.size ≤ fr.1 ∧ P.underlying e = some (.int .u8))) ∧ arr.size = E.tot id ∧ (P.info? e).map (·.size) = some (E.sz id) ∧ c.length ≤ arr.size ∧ VL E c (arr.toList.take c.length) ∧ E.sh id = 0 ∧ restOK P e (arr.toList.drop c.length)
 | .map es k => ∃ es', w.heap[E.ρ id]? = some (.map es' k) ∧ MP E es es' k
 | .loop r => ∃ (tmps : Array Value) (fn : FuncId), w.heap[E.ρ id]? = some (.loop { state := r.state, pending := r.pend, fn, tmps, params := r.params, assign := r.assign, body := r.body, defers := E.ρ r.defs }) ∧ TR E r.T r.nt tmps ∧ E.dom r.defs
 | .defs => w.heap[E.ρ id]? = some (.deferred (some []))
 | .it s p => w.heap[E.ρ id]? = some (.stringIter s p)
 | .mit m c => w.heap[E.ρ id]? = some (.mapIter (some (E.ρ m)) c #[] c) ∧ E.dom m ∧ E.sh id = 0
 | .win c z => E.sz id = z ∧ ∃ l : List Value, l.length = c.length ∧ VL E c l ∧ ∀ j v, l[j]? = some v → w.cell? ⟨E.ρ id, E.sh id + j, none⟩ = some v
theorem OR.mono {P : Program} {E E' : Env} {w w' : World} {id : Nat} {o : AObj} (x : Ext E E') (hid : E.dom id) (hb : w'.heap[E.ρ id]? = w.heap[E.ρ id]?) (h : OR P E w id o) : OR P E' w' id o := by
 have e := x.ρ id hid
 cases o with
 | cells c t =>
  obtain ⟨arr, fr, h1, h2, h3, h4, h5, h6, h7⟩ := h
  exact ⟨arr, fr, by rw [e, hb]; exact h1, h2, by rw [x.tot id hid]; exact h3, by rw [x.sz id hid]; exact h4, h5, h6.ext x, by rw [x.sh id hid]; exact h7.1, h7.2⟩
 | map es k =>
  obtain ⟨es', h1, h2⟩ := h
  exact ⟨es', by rw [e, hb]; exact h1, h2.ext x⟩
 | loop r =>
  obtain ⟨tm, fn, h1, h2, h3⟩ := h
  exact ⟨tm, fn, by rw [e, hb, x.ρ r.defs h3]; exact h1, h2.ext x, x.n _ h3⟩
 | defs => show _ = _; rw [e, hb]; exact h
 | it s p => show _ = _; rw [e, hb]; exact h
 | mit m c =>
  obtain ⟨h1, h2, h3⟩ := h
  exact ⟨by rw [e, hb, x.ρ m h2]; exact h1, x.n _ h2, by rw [x.sh id hid]; exact h3⟩
 | win c z =>
  obtain ⟨h0, l, h1, h2, h3⟩ := h
  refine ⟨by rw [x.sz id hid]; exact h0, l, h1, h2.ext x, fun j v hj => ?_⟩
  have := h3 j v hj
  rw [e, x.sh id hid]
  unfold World.cell? at this ⊢
  simp only [] at this ⊢
  rw [hb]; exact this
structure HR (P : Program) (E : Env) (G : Gh) (w : World) : Prop where
 lt : ∀ id, E.dom id → E.ρ id < w.heap.size
 dom : ∀ id, ¬ E.dom id → G id = none
 obj : ∀ id o, G id = some o → OR P E w id o
 inj : ∀ i j, G i ≠ none → G j ≠ none → ¬ E.ro i ∨ ¬ E.ro j → E.ρ i = E.ρ j → i = j
 ro : ∀ id o, G id = some o → E.ro id → o.isWin
 fz : ∀ b ob, E.fz b = some ob → w.heap[b]? = some ob
 fn : ∀ id, G id ≠ none → ¬ E.ro id → E.fz (E.ρ id) = none
 pos : 0 < w.heap.size
theorem HR.live {P : Program} {E : Env} {G : Gh} {w : World} (h : HR P E G w) {id : Nat} (hg : G id ≠ none) : E.dom id :=
 Classical.byContradiction fun hn => hg (h.dom id hn)
theorem HR.fz_below {P : Program} {E : Env} {G : Gh} {w w' : World} (h : HR P E G w) (hb : ∀ b, b < w.heap.size → w'.heap[b]? = w.heap[b]?) : ∀ b ob, E.fz b = some ob → w'.heap[b]? = some ob := fun b ob hf =>
 (hb b (Array.getElem?_eq_some_iff.1 (h.fz b ob hf)).1).trans (h.fz b ob hf)
theorem HR.fzc {P : Program} {E : Env} {G : Gh} {w : World} (h : HR P E G w) {b o : Nat} {v : Value} (hv : Go.Proofs.Ytpdeidlkeplegaa.fzc E.fz b o = some v) : w.cell? ⟨b, o, none⟩ = some v := by
 unfold Go.Proofs.Ytpdeidlkeplegaa.fzc at hv
 split at hv
 ·rename_i hb; simp [World.cell?, h.fz _ _ hb, hv]
 ·cases hv
theorem HR.sub {P : Program} {E : Env} {G G' : Gh} {w : World} (h : HR P E G w) (hs : ∀ k o, G' k = some o → G k = some o) : HR P E G' w := by
 have hn : ∀ i, G' i ≠ none → G i ≠ none := fun i hi => by
  cases hg : G' i with
  | none => exact absurd hg hi
  | some o => rw [hs i o hg]; simp
 refine ⟨h.lt, fun id hid => ?_, fun id o ho => h.obj id o (hs id o ho), fun i j hi hj => h.inj i j (hn i hi) (hn j hj), fun id o ho => h.ro id o (hs id o ho), h.fz, fun i hi => h.fn i (hn i hi), h.pos⟩
 cases hg : G' id with
 | none => rfl
 | some o => have := hs id o hg; rw [h.dom id hid] at this; cases this
structure Stp (E E' : Env) (W : List Nat) (w w' : World) : Prop where
 ext : Ext E E'
 os : w'.os = w.os
 tape : w'.tape = w.tape
 output : w'.output = w.output
 size : w.heap.size ≤ w'.heap.size
 block : ∀ b, b < w.heap.size → (∀ id ∈ W, E.dom id → ¬ E.ro id → E.ρ id ≠ b) → w'.heap[b]? = w.heap[b]?
 fresh : ∀ id, ¬ E.dom id → E'.dom id → ¬ E'.ro id ∧ (w.heap.size ≤ E'.ρ id ∨ ∃ o ∈ W, E.dom o ∧ ¬ E.ro o ∧ E'.ρ id = E.ρ o)
 fz : ∀ b ob, E'.fz b = some ob → E.fz b = some ob ∨ w.heap.size ≤ b ∨ ∃ o ∈ W, E.dom o ∧ ¬ E.ro o ∧ E.ρ o = b
theorem Stp.refl (E : Env) (w : World) : Stp E E [] w w := ⟨.refl E, rfl, rfl, rfl, Nat.le_refl _, fun _ _ _ => rfl, fun _ h1 h2 => absurd h2 h1, fun _ _ h => .inl h⟩
theorem Stp.drew {E E' : Env} {W : List Nat} {w w' : World} (h : Stp E E' W w w') (n : Nat) : Stp E E' W w { w' with drawn := n } := ⟨h.ext, h.os, h.tape, h.output, h.size, h.block, h.fresh, h.fz⟩
theorem Stp.sub {E E' : Env} {W W' : List Nat} {w w' : World} (h : Stp E E' W w w') (hs : ∀ x ∈ W, E.dom x → x ∈ W') : Stp E E' W' w w' :=
 ⟨h.ext, h.os, h.tape, h.output, h.size, fun b hb hx => h.block b hb (fun id hi hl => hx id (hs id hi hl) hl), fun id h1 h2 => (h.fresh id h1 h2).imp (fun x => x) (fun y => y.imp (fun x => x) (fun ⟨o, ho, hl, e⟩ => ⟨o, hs o ho hl, hl, e⟩)), fun b ob hb => (h.fz b ob hb).imp (fun x => x) (fun y => y.imp (fun x => x) (fun ⟨o, ho, hl, e⟩ => ⟨o, hs o ho hl, hl, e⟩))⟩
theorem Stp.trans {A B C : Env} {W V : List Nat} {w w1 w2 : World} (h : Stp A B W w w1) (k : Stp B C V w1 w2) : Stp A C (V ++ W) w w2 := by
 refine ⟨h.ext.trans k.ext, k.os.trans h.os, k.tape.trans h.tape, k.output.trans h.output, Nat.le_trans h.size k.size, fun b hb hx => ?_, fun id h1 h2 => ?_, fun b ob hb => ?_⟩
 ·rw [k.block b (Nat.lt_of_lt_of_le hb h.size) (fun id hi hl hr => ?_), h.block b hb (fun id hi hl => hx id (by simp [hi]) hl)]
  by_cases h1 : A.dom id
  ·rw [h.ext.ρ id h1]; exact hx id (by simp [hi]) h1 (fun x => hr ((h.ext.ro id h1).2 x))
  ·rcases (h.fresh id h1 hl).2 with h2 | ⟨o, ho, hl', hr', e⟩
   ·omega
   ·rw [e]; exact hx o (by simp [ho]) hl' hr'
 ·by_cases h3 : B.dom id
  ·rw [k.ext.ρ id h3]
   obtain ⟨f1, f2⟩ := h.fresh id h1 h3
   exact ⟨fun x => f1 ((k.ext.ro id h3).1 x), f2.imp (fun x => x) (fun ⟨o, ho, hl, e⟩ => ⟨o, by simp [ho], hl, e⟩)⟩
  ·obtain ⟨f1, f2⟩ := k.fresh id h3 h2
   refine ⟨f1, ?_⟩
   rcases f2 with h4 | ⟨o, ho, hl, hr, e⟩
   ·exact .inl (Nat.le_trans h.size h4)
   ·by_cases h5 : A.dom o
    ·exact .inr ⟨o, by simp [ho], h5, fun x => hr ((h.ext.ro o h5).2 x), by rw [e, h.ext.ρ o h5]⟩
    ·rw [e]
     exact (h.fresh o h5 hl).2.imp (fun x => x) (fun ⟨o', ho', hl', e'⟩ => ⟨o', by simp [ho'], hl', e'⟩)
 ·rcases k.fz b ob hb with h1 | h1 | ⟨o, ho, hl, hr, e⟩
  ·exact (h.fz b ob h1).imp (fun x => x) (fun y => y.imp (fun x => x) (fun ⟨o, ho, hl, e⟩ => ⟨o, by simp [ho], hl, e⟩))
  ·exact .inr (.inl (Nat.le_trans h.size h1))
  ·by_cases h5 : A.dom o
   ·exact .inr (.inr ⟨o, by simp [ho], h5, fun x => hr ((h.ext.ro o h5).2 x), by rw [← e, h.ext.ρ o h5]⟩)
   ·rcases (h.fresh o h5 hl).2 with h6 | ⟨o', ho', hl', hr', e'⟩
    ·exact .inr (.inl (by rw [← e]; exact h6))
    ·exact .inr (.inr ⟨o', by simp [ho'], hl', hr', by rw [← e, e']⟩)
theorem HR.lift {P : Program} {E E' : Env} {G G' Gn Gb : Gh} {w w' : World} {W : List Nat} (h : HR P E G w) (hsub : ∀ k o, G' k = some o → G k = some o) (hs : Stp E E' W w w') (hn : HR P E' Gn w')
  (hW : ∀ k ∈ W, E.dom k → G' k ≠ none) (hold : ∀ k, E.dom k → k ∉ W → Gb k = G k) (hnew : ∀ k, (¬ E.dom k ∨ k ∈ W) → Gb k = Gn k) : HR P E' Gb w' := by
 have hWG : ∀ k ∈ W, E.dom k → G k ≠ none := fun k hk hl => by
  cases hg : G' k with
  | none => exact absurd hg (hW k hk hl)
  | some o => rw [hsub k o hg]; simp
 have two : ∀ k, (¬ E.dom k ∨ k ∈ W) ∨ (E.dom k ∧ k ∉ W) := fun k => by
  by_cases h1 : E.dom k <;> by_cases h2 : k ∈ W
  ·exact .inl (.inr h2)
  ·exact .inr ⟨h1, h2⟩
  ·exact .inl (.inl h1)
  ·exact .inl (.inl h1)
 have key : ∀ i j, (¬ E.dom i ∨ i ∈ W) → (E.dom j ∧ j ∉ W) → E'.dom i → G j ≠ none → ¬ E'.ro i ∨ ¬ E'.ro j → E'.ρ i ≠ E'.ρ j := by
  intro i j hi ⟨hjn, hjW⟩ hil hGj hro e
  rw [hs.ext.ρ j hjn] at e
  have hjs := h.lt j hjn
  by_cases h1 : E.dom i
  ·have hiW : i ∈ W := hi.resolve_left (fun x => x h1)
   rw [hs.ext.ρ i h1] at e
   exact hjW (h.inj i j (hWG i hiW h1) hGj (hro.imp (fun x y => x ((hs.ext.ro i h1).2 y)) (fun x y => x ((hs.ext.ro j hjn).2 y))) e ▸ hiW)
  ·rcases (hs.fresh i h1 hil).2 with h2 | ⟨o, ho, hl, hr, e'⟩
   ·omega
   ·exact hjW (h.inj o j (hWG o ho hl) hGj (.inl hr) (e'.symm.trans e) ▸ ho)
 refine ⟨hn.lt, fun id hid => ?_, fun id o ho => ?_, fun i j hi hj hro e => ?_, fun id o ho hr => ?_, hn.fz, fun id hi hr => ?_, hn.pos⟩
 ·rw [hnew id (.inl (fun x => hid (hs.ext.n id x)))]; exact hn.dom id hid
 ·rcases two id with hk | hk
  ·rw [hnew id hk] at ho; exact hn.obj id o ho
  ·rw [hold id hk.1 hk.2] at ho
   refine (h.obj id o ho).mono hs.ext hk.1 (hs.block _ (h.lt id hk.1) (fun k hkW hl hr e => ?_))
   exact hk.2 (h.inj k id (hWG k hkW hl) (by rw [ho]; simp) (.inl hr) e ▸ hkW)
 ·rcases two i with hki | hki
  ·rw [hnew i hki] at hi
   rcases two j with hkj | hkj
   ·rw [hnew j hkj] at hj; exact hn.inj i j hi hj hro e
   ·rw [hold j hkj.1 hkj.2] at hj; exact absurd e (key i j hki hkj (hn.live hi) hj hro)
  ·rw [hold i hki.1 hki.2] at hi
   rcases two j with hkj | hkj
   ·rw [hnew j hkj] at hj; exact absurd e.symm (key j i hkj hki (hn.live hj) hi hro.symm)
   ·rw [hold j hkj.1 hkj.2] at hj
    rw [hs.ext.ρ i hki.1, hs.ext.ρ j hkj.1] at e
    exact h.inj i j hi hj (hro.imp (fun x y => x ((hs.ext.ro i hki.1).2 y)) (fun x y => x ((hs.ext.ro j hkj.1).2 y))) e
 ·rcases two id with hk | hk
  ·rw [hnew id hk] at ho; exact hn.ro id o ho hr
  ·rw [hold id hk.1 hk.2] at ho; exact h.ro id o ho ((hs.ext.ro id hk.1).1 hr)
 ·rcases two id with hk | hk
  ·rw [hnew id hk] at hi; exact hn.fn id hi hr
  ·rw [hold id hk.1 hk.2] at hi
   rw [hs.ext.ρ id hk.1]
   have hr0 : ¬ E.ro id := fun x => hr ((hs.ext.ro id hk.1).2 x)
   cases hf : E'.fz (E.ρ id) with
   | none => rfl
   | some ob =>
    rcases hs.fz _ ob hf with h1 | h1 | ⟨o, ho, hl, _, e⟩
    ·rw [h.fn id hi hr0] at h1; cases h1
    ·have := h.lt id hk.1; omega
    ·exact absurd (h.inj o id (hWG o ho hl) hi (.inr hr0) e ▸ ho) hk.2
def Env.push (E : Env) (m b t s : Nat) : Env := ⟨fun k => k = m ∨ E.dom k, fun k => if k = m then b else E.ρ k, fun k => if k = m then t else E.tot k, fun k => if k = m then s else E.sz k, fun k => if k = m then 0 else E.sh k, fun k => k ≠ m ∧ E.ro k, E.fz⟩
theorem Env.push_ext {E : Env} {m : Nat} (hm : ¬ E.dom m) (b t s : Nat) : Ext E (E.push m b t s) :=
 ⟨fun _ h => .inr h, fun k h => if_neg (fun (e : k = m) => hm (e ▸ h)), fun k h => if_neg (fun (e : k = m) => hm (e ▸ h)), fun k h => if_neg (fun (e : k = m) => hm (e ▸ h)), fun k h => if_neg (fun (e : k = m) => hm (e ▸ h)), fun k h => ⟨And.right, fun x => ⟨fun (e : k = m) => hm (e ▸ h), x⟩⟩, fun _ _ h => h⟩
@[simp] theorem Env.push_ρ (E : Env) (m b t s : Nat) : (E.push m b t s).ρ m = b := if_pos rfl
@[simp] theorem Env.push_tot (E : Env) (m b t s : Nat) : (E.push m b t s).tot m = t := if_pos rfl
@[simp] theorem Env.push_sz (E : Env) (m b t s : Nat) : (E.push m b t s).sz m = s := if_pos rfl
@[simp] theorem Env.push_sh (E : Env) (m b t s : Nat) : (E.push m b t s).sh m = 0 := if_pos rfl
theorem Env.push_ro (E : Env) (m b t s : Nat) : ¬ (E.push m b t s).ro m := fun h => h.1 rfl
theorem Env.push_dom (E : Env) (m b t s : Nat) : (E.push m b t s).dom m := .inl rfl
def gset (G : Gh) (k : Nat) (x : Option AObj) : Gh := fun j => if j = k then x else G j
theorem HR.new {P : Program} {E : Env} {G : Gh} {w : World} (h : HR P E G w) {m : Nat} (hm : ¬ E.dom m) (ob : Obj) (o : AObj) (t s : Nat) (ho : OR P (E.push m w.heap.size t s) (w.alloc ob) m o) :
  HR P (E.push m w.heap.size t s) (gset G m (some o)) (w.alloc ob) ∧ Stp E (E.push m w.heap.size t s) [] w (w.alloc ob) := by
 have hx := Env.push_ext hm w.heap.size t s
 have hblk : ∀ b, b < w.heap.size → (w.alloc ob).heap[b]? = w.heap[b]? := fun b hb => Below.heap_alloc w ob b hb
 have hfl : ∀ b ob, E.fz b = some ob → b < w.heap.size := fun b ob hb => (Array.getElem?_eq_some_iff.1 (h.fz b ob hb)).1
 refine ⟨⟨fun id hid => ?_, fun id hid => ?_, fun id o' ho' => ?_, fun i j hi hj hro e => ?_, fun id o' ho' hr => ?_, fun b ob hb => (hblk b (hfl b ob hb)).trans (h.fz b ob hb), fun id hi hr => ?_, by simp⟩, ⟨hx, rfl, rfl, rfl, by simp, fun b hb _ => hblk b hb, fun id h1 h2 => ?_, fun _ _ h => .inl h⟩⟩
 ·rcases hid with h1 | h1
  ·subst h1; simp
  ·rw [hx.ρ id h1]; have := h.lt id h1; simp; omega
 ·show (if _ then _ else _) = none
  rw [if_neg (fun e => hid (.inl e))]; exact h.dom id (fun e => hid (.inr e))
 ·have ho' : (if id = m then some o else G id) = some o' := ho'
  by_cases he : id = m
  ·rw [if_pos he] at ho'; cases ho'; rw [he]; exact ho
  ·rw [if_neg he] at ho'
   have hl := h.live (id := id) (by rw [ho']; simp)
   exact (h.obj id o' ho').mono hx hl (hblk _ (h.lt id hl))
 ·have hi : (if i = m then some o else G i) ≠ none := hi
  have hj : (if j = m then some o else G j) ≠ none := hj
  by_cases hie : i = m <;> by_cases hje : j = m
  ·rw [hie, hje]
  ·rw [if_neg hje] at hj
   have hl := h.live hj
   rw [hie, Env.push_ρ, hx.ρ j hl] at e
   have := h.lt j hl; omega
  ·rw [if_neg hie] at hi
   have hl := h.live hi
   rw [hje, Env.push_ρ, hx.ρ i hl] at e
   have := h.lt i hl; omega
  ·rw [if_neg hie] at hi
   rw [if_neg hje] at hj
   have h1 := h.live hi
   have h2 := h.live hj
   rw [hx.ρ i h1, hx.ρ j h2] at e
   exact h.inj i j hi hj (hro.imp (fun x y => x ((hx.ro i h1).2 y)) (fun x y => x ((hx.ro j h2).2 y))) e
 ·have ho' : (if id = m then some o else G id) = some o' := ho'
  rw [if_neg hr.1] at ho'
  exact h.ro id o' ho' hr.2
 ·have hi : (if id = m then some o else G id) ≠ none := hi
  by_cases he : id = m
  ·rw [he, Env.push_ρ]
   show E.fz _ = none
   cases hf : E.fz w.heap.size with
   | none => rfl
   | some ob => exact absurd (hfl _ ob hf) (Nat.lt_irrefl _)
  ·rw [if_neg he] at hi
   have hl := h.live hi
   rw [hx.ρ id hl]
   exact h.fn id hi (fun x => hr ⟨he, x⟩)
 ·rcases h2 with h2 | h2
  ·subst h2; exact ⟨Env.push_ro _ _ _ _ _, .inl (by simp)⟩
  ·exact absurd h2 h1
theorem HR.put {P : Program} {E : Env} {G : Gh} {w w' : World} (h : HR P E G w) {id : Nat} {o o' : AObj} (hg : G id = some o) (hw : w'.os = w.os ∧ w'.tape = w.tape ∧ w'.output = w.output ∧ w'.heap.size = w.heap.size)
  (hb : ∀ b, b ≠ E.ρ id → w'.heap[b]? = w.heap[b]?) (ho : OR P E w' id o') (hno : ¬ o.isWin := by exact fun x => x) : HR P E (gset G id (some o')) w' ∧ Stp E E [id] w w' := by
 have hl := h.live (id := id) (by rw [hg]; simp)
 have hnr : ¬ E.ro id := fun x => hno (h.ro id o hg x)
 refine ⟨⟨fun k hk => by rw [hw.2.2.2]; exact h.lt k hk, fun k hk => ?_, fun k x hx => ?_, fun i j hi hj hro e => ?_, fun k x hx hr => ?_, fun b ob hf => ?_, fun k hk hr => ?_, by rw [hw.2.2.2]; exact h.pos⟩, ⟨.refl E, hw.1, hw.2.1, hw.2.2.1, Nat.le_of_eq hw.2.2.2.symm, fun b _ hx => hb b (fun e => hx id (by simp) hl hnr e.symm), fun k h1 h2 => absurd h2 h1, fun _ _ h => .inl h⟩⟩
 ·show (if _ then _ else _) = none
  rw [if_neg (fun (e : k = id) => hk (e ▸ hl))]; exact h.dom k hk
 ·have hx : (if k = id then some o' else G k) = some x := hx
  by_cases he : k = id
  ·rw [if_pos he] at hx; cases hx; rw [he]; exact ho
  ·rw [if_neg he] at hx
   refine (h.obj k x hx).mono (.refl E) (h.live (by rw [hx]; simp)) (hb _ (fun e => he (h.inj k id (by rw [hx]; simp) (by rw [hg]; simp) (.inr hnr) e)))
 ·have key : ∀ k, (if k = id then some o' else G k) ≠ none → G k ≠ none := fun k hk => by
   by_cases he : k = id
   ·rw [he, hg]; simp
   ·rwa [if_neg he] at hk
  exact h.inj i j (key i hi) (key j hj) hro e
 ·have hx : (if k = id then some o' else G k) = some x := hx
  rw [if_neg (fun (e : k = id) => hnr (e ▸ hr))] at hx
  exact h.ro k x hx hr
 ·rw [hb b (fun e => ?_)]
  ·exact h.fz b ob hf
  ·rw [e, h.fn id (by rw [hg]; simp) hnr] at hf; cases hf
 ·refine h.fn k ?_ hr
  have hk : (if k = id then some o' else G k) ≠ none := hk
  by_cases he : k = id
  ·rw [he, hg]; simp
  ·rwa [if_neg he] at hk
end Go.Proofs.Ytpdeidlkeplegaa
