/- DERIVED. Texts put together: Base. -/
import Derived.BigQuiet
import Derived.Deep.LoopGhost
import Derived.Deep.QuietTactic
import Derived.Handy
import Derived.Lib.Hide
import Derived.WalkKit
import Derived.WalkLawsBesides
import Derived.WalkSpells
set_option maxRecDepth 1000000
set_option maxHeartbeats 32000000
namespace Go.Proofs.Ytpdeidlkeplegaa
open Go.RowKit
abbrev Bs := List UInt8
def bt (l : Bs) (k : Nat) : Nat := (l.getD k 0).toNat
theorem bt_lt (l : Bs) (k : Nat) : bt l k < 256 := UInt8.toNat_lt _
theorem wrap_bt (l : Bs) (k : Nat) : wrap64 (bt l k : Int) = (bt l k : Int) := by
 have := bt_lt l k
 exact IntWalk.wrap64_in _ (by omega)
def Reads (w : World) (sz : Nat) (v : Value) (n : Nat) (xs : List Value) : Prop :=
 xs.length = n * sz ∧
 ((v = .slice none 0 0 ∧ n = 0) ∨
  ∃ b o cap, v = .slice (some ⟨b, o, none⟩) n cap ∧ n ≤ cap ∧ cap ≤ maxLen ∧ ∀ j u, xs[j]? = some u → w.cell? ⟨b, o + j, none⟩ = some u)
def ReadsL {α : Type} (sz : Nat) (R : World → α → List Value → Prop) (w : World) (v : Value) (L : List α) : Prop :=
 ∃ css : List (List Value), css.length = L.length ∧ Reads w sz v L.length css.flatten ∧ (∀ cs ∈ css, cs.length = sz) ∧ ∀ (i : Nat) (x : α) (cs : List Value), L[i]? = some x → css[i]? = some cs → R w x cs
theorem zKs {α : Type} (sz : Nat) : ∀ (css : List (List α)), (∀ cs ∈ css, cs.length = sz) → ∀ i j cs, css[i]? = some cs → j < sz → css.flatten[i * sz + j]? = cs[j]?
 | [], _, i, j, cs, h, _ => by simp at h
 | c :: css, hall, 0, j, cs, h, hj => by
  have hc : c.length = sz := hall c (by simp)
  simp only [List.getElem?_cons_zero, Option.some.injEq] at h
  subst h
  simp only [List.flatten_cons, Nat.zero_mul, Nat.zero_add]
  rw [List.getElem?_append_left (by omega)]
 | c :: css, hall, i + 1, j, cs, h, hj => by
  have hc : c.length = sz := hall c (by simp)
  simp only [List.getElem?_cons_succ] at h
  have ih := zKs sz css (fun x hx => hall x (by simp [hx])) i j cs h hj
  simp only [List.flatten_cons]
  rw [List.getElem?_append_right (by rw [hc, Nat.succ_mul]; omega), ← ih]
  congr 1
  rw [hc, Nat.succ_mul]; omega
theorem ReadsL.at {α : Type} {sz : Nat} {R : World → α → List Value → Prop} {w : World} {v : Value} {L : List α} (h : ReadsL sz R w v L) :
  (v = .slice none 0 0 ∧ L = []) ∨
  ∃ b o cap, v = .slice (some ⟨b, o, none⟩) L.length cap ∧ L.length ≤ cap ∧ cap ≤ maxLen ∧
   ∀ i x, L[i]? = some x → ∃ cs, cs.length = sz ∧ R w x cs ∧ ∀ j u, cs[j]? = some u → w.cell? ⟨b, o + i * sz + j, none⟩ = some u := by
 obtain ⟨css, hlen, ⟨_, hr⟩, hall, hR⟩ := h
 rcases hr with ⟨hv, hn⟩ | ⟨b, o, cap, hv, hc, hm, hx⟩
 ·exact .inl ⟨hv, List.eq_nil_of_length_eq_zero hn⟩
 ·refine .inr ⟨b, o, cap, hv, hc, hm, fun i x hi => ?_⟩
  have hil : i < L.length := (List.getElem?_eq_some_iff.1 hi).1
  have hcs : css[i]? = some css[i] := List.getElem?_eq_getElem (by omega)
  refine ⟨css[i], hall _ (by simp), hR i x _ hi hcs, fun j u hj => ?_⟩
  have hjl : j < css[i].length := (List.getElem?_eq_some_iff.1 hj).1
  rw [hall _ (by simp)] at hjl
  have := zKs sz css hall i j _ hcs hjl
  rw [Nat.add_assoc]
  exact hx _ u (by rw [this]; exact hj)
abbrev str (l : Bs) : Value := .string ⟨l.toArray⟩
structure Rc where
 name : Bs
 type : Int
 cls : Int
 ttl : Int
 data : Bs
 deriving DecidableEq
def i64ok (n : Int) : Prop := -9223372036854775808 ≤ n ∧ n ≤ 9223372036854775807
def Rc.cells (r : Rc) : List Value := [str r.name, .int .i64 r.type, .int .i64 r.cls, .int .i64 r.ttl, str r.data]
def Rc.ok (r : Rc) : Prop := i64ok r.type ∧ i64ok r.cls ∧ i64ok r.ttl ∧ r.name.length ≤ maxLen ∧ r.data.length ≤ maxLen
def room : Nat := 100000000000
def ByteBlk (w : World) (b : Nat) (l : Bs) : Prop := ∀ j, j < l.length → w.cell? ⟨b, j, none⟩ = some (.int .u8 (bt l j : Int)) ∧ w.frozen? ⟨b, j, none⟩ = false
theorem bt_get (l : Bs) (j : Nat) (h : j < l.length) : bt l j = (l[j]).toNat := by simp [bt, List.getD_eq_getElem?_getD, List.getElem?_eq_getElem h]
theorem ByteBlk.set {w : World} {b : Nat} {l : Bs} (h : ByteBlk w b l) (k : Nat) (c : UInt8) : ByteBlk (w.setCell ⟨b, k, none⟩ (.int .u8 (c.toNat : Int))) b (l.set k c) := by
 intro j hj
 simp only [List.length_set] at hj
 obtain ⟨h1, h2⟩ := h j hj
 refine ⟨?_, by rw [World.frozen?_setCell]; exact h2⟩
 by_cases e : k = j
 ·subst e
  rw [World.cell?_setCell_same' _ _ _ (by rw [h1]; rfl), bt_get _ _ (by simpa using hj)]; simp
 ·rw [World.cell?_setCell_other w _ _ _ (by intro h; cases h; exact e rfl), h1]
  simp [bt, List.getD_eq_getElem?_getD, List.getElem?_set_ne e]
theorem zAi (b o j : Nat) : (⟨b, o, none⟩ : Addr).add j = ⟨b, o + j, none⟩ := by unfold Addr.add; split <;> simp_all
def Halt_ (p : Prop) : Prop := p
theorem halt {p : Prop} (h : Halt_ p) : p := h
end Go.Proofs.Ytpdeidlkeplegaa
