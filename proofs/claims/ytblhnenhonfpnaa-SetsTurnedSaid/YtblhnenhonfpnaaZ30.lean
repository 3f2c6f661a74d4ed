/- DERIVED. Texts put together: Ta3, So1. -/
import Derived.Test.YtblhnenhonfpnaaZ13
import Derived.Test.YtblhnenhonfpnaaZ20
import Derived.Test.YtblhnenhonfpnaaZ29
set_option maxRecDepth 1000000
set_option maxHeartbeats 32000000
namespace Go.Proofs.Ytblhnenhonfpnaa
open Go Go.Joins Go.ChangeShapes Go.WideShapes Go.RowKit Go.Deep
theorem zJa {H : Type} {P : Program} {e : TypeId} {d : DataW H} {q : Nat} (hq : q ∈ d.weights P e) : ∀ {l : List (DataW H)}, d ∈ l → q ∈ DataW.weightsAll P e l
 | x :: l, h => by
  unfold DataW.weightsAll
  rcases List.mem_cons.1 h with rfl | h
  ·exact List.mem_append_left _ hq
  ·exact List.mem_append_right _ (zJa hq h)
section
variable {P : Program} {H : Type} {enc : TypeId × Value → H} {w : World} {base : Nat} {spare : Nat → Bool} {held : Bool}
theorem zJx {α : Type} (L : Lay α) {r : Reach} {b0 : Nat} {t e : TypeId} {v : Value} {fuel R : Nat} {x : DataW H × List MemPlace} (Q : α → Prop) (ht : P.underlying t = some (.slice e)) (hC : P.cellsOf e = L.k)
  (hopen : ∀ n cs y, DataW.trod enc P w base spare held n e cs = some y → ∃ x, cs = L.g x) (hQ : ∀ n x y, DataW.trod enc P w base spare held n e (L.g x) = some y → (∀ q ∈ y.1.weights P e, q ≤ R) → Q x)
  (hv : Cell.okWide P w r b0 t v) (h : DataW.trod enc P w base spare held fuel t [v] = some x) (hpos : 0 < w.heap.size) (hw : ∀ n ∈ x.1.weights P t, n ≤ R) :
  ∃ y : WinL α, y.good L w ∧ y.l.length * P.bytesOf e ≤ R ∧ (∀ x ∈ y.l, Q x) ∧ ∀ (E : Env) (k : Nat), E.dom k → E.ρ k = y.b → E.sh k = y.off → VR E (y.sl k) v := by
 obtain ⟨y, h1, h2, h3⟩ := zRw L ht hC hopen hv h hpos hw
 refine ⟨y, h1, h2, ?_, h3⟩
 have hvr := h3 ⟨fun _ => True, fun _ => y.b, fun _ => 0, fun _ => 0, fun _ => y.off, fun _ => False, fun _ => none⟩ 0 trivial rfl rfl
 have hmx : maxLen = 9223372036854775807 := by decide
 intro z hz
 obtain ⟨i, hi, rfl⟩ := List.getElem_of_mem hz
 rcases open_slice ht h with ⟨h0, _⟩ | ⟨a, len, cap, m, n, D, Pl, hcs, _, hl, _, hm, hx, hel⟩
 ·simp only [List.cons.injEq, and_true] at h0
  subst h0
  have : y.l.length = 0 := Nat.le_zero.1 (zQw (b := 0) (o := 0) (c := y.c) hvr)
  omega
 ·simp only [List.cons.injEq, and_true] at hcs
  subst hcs
  have hle : y.l.length ≤ len := zQw (b := 0) (o := 0) (c := y.c) hvr
  have hlm : len ≤ m := by rw [hm]; split <;> omega
  have hab : a = ⟨y.b, y.off, none⟩ := by
   have hvr : VR ⟨fun _ => True, fun _ => y.b, fun _ => 0, fun _ => 0, fun _ => y.off, fun _ => False, fun _ => none⟩ (.slice (some ⟨0, 0, none⟩) y.l.length y.c) (.slice (some a) len cap) := hvr
   obtain ⟨_, ⟨_, e⟩ | ⟨hU, _⟩ | ⟨h0, _⟩⟩ := hvr.slice_inv
   ·simp only [Value.slice.injEq, Option.some.injEq] at e
    exact e.1
   ·obtain ⟨_, _, _, hc⟩ := h1
    have : U = 1180591620717411303424 := rfl
    omega
   ·omega
  subst hab
  obtain ⟨cs', q1, q2⟩ := hel i (by omega)
  obtain ⟨z', rfl⟩ := hopen _ _ _ q2
  obtain ⟨_, hcl, hat⟩ := World.cells?_some q1
  have hzz : z' = y.l[i] := by
   refine L.inj _ _ (List.ext_getElem? fun j => ?_)
   by_cases hj : j < L.k
   ·have e1 := hat j (by rw [hC]; exact hj)
    rw [← e1, zAi, zAi]
    obtain ⟨p1, p2⟩ := zGc L.g L.k L.len y.l i hi
    have e2 : (y.l.flatMap L.g)[i * L.k + j]? = (L.g y.l[i])[j]? := by rw [← p2, List.getElem?_take_of_lt hj, List.getElem?_drop]
    have e3 := List.getElem?_eq_getElem (l := L.g y.l[i]) (i := j) (by rw [L.len]; exact hj)
    rw [e3] at e2 ⊢
    have := h1.2.1 (i * L.k + j) _ e2
    rw [hC, Nat.add_assoc]; exact this
   ·rw [List.getElem?_eq_none (by rw [L.len]; omega), List.getElem?_eq_none (by rw [L.len]; omega)]
  rw [← hzz]
  refine hQ _ _ _ q2 fun q hq => hw q ?_
  rw [hx]
  show q ∈ DataW.weights P t (.slice _ _)
  unfold DataW.weights
  simp only [ht]
  refine List.mem_cons_of_mem _ (List.mem_append_left _ (zJa hq (List.mem_map.2 ⟨i, List.mem_range.2 (by omega), rfl⟩)))
end
section
variable {H : Type} {enc : TypeId × Value → H} {w : World} {base : Nat} {spare : Nat → Bool} {held : Bool}
theorem trod_sQ {n : Nat} {c : Value} {y : DataW H × List MemPlace} {R : Nat} (h : DataW.trod enc Try.prog w base spare held n 9 [c] = some y) (hw : ∀ q ∈ y.1.weights Try.prog 9, q ≤ R) : ∃ x : ByteArray, c = .string x ∧ x.size ≤ R := by
 obtain ⟨a, e, rfl, _⟩ := DataW.trod_string Try.underlying9 h
 simp only [List.cons.injEq, and_true] at e
 refine ⟨a, e, hw a.size ?_⟩
 show a.size ∈ DataW.weights Try.prog 9 (.lit (.string a.data.toList))
 unfold DataW.weights
 rw [Array.length_toList]
 exact List.mem_singleton.2 rfl
end
end Go.Proofs.Ytblhnenhonfpnaa
namespace Go.Proofs.Ytblhnenhonfpnaa
open Go Go.RowKit
def emp : ByteArray := ⟨#[]⟩
theorem chk_one (n : ByteArray) : (SetX.chk ⟨n, 0, 0, 0, [emp]⟩ == 0) = decide ((labels (bs n)).2 = 0) := by
 unfold SetX.chk SetX.fine
 by_cases h : (labels (bs n)).2 = 0
 ·rw [decide_eq_true h]; rfl
 ·rw [decide_eq_false h]; rfl
end Go.Proofs.Ytblhnenhonfpnaa
