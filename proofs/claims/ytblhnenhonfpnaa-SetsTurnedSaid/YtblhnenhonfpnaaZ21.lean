/- DERIVED. Texts put together: Map. -/
import Derived.DeepKeys4
import Derived.Maps.OwnOps
import Derived.Maps.OwnSet
import Derived.Maps.Views
import Derived.Test.YtblhnenhonfpnaaZ16
set_option maxRecDepth 1000000
set_option maxHeartbeats 32000000
namespace Go.Proofs.Ytblhnenhonfpnaa
open Go.RowKit
structure Keys {α : Type} (P : Program) (k : TypeId) (kv : α → Value) (ok : α → Prop) : Prop where
 keyed : Maps.Keyed P k
 lit : ∀ a, ok a → ∃ l, keyOf P k (kv a) = some l
 inj : ∀ a b, kv a = kv b → a = b
def MapI {α : Type} (P : Program) (k e : TypeId) (kv : α → Value) (ok : α → Prop) (w : World) (b n : Nat) (f : α → Option Int) : Prop :=
 ∃ D : DataW Unit, w.ownsMap P k (plainElem P e) b n D ∧ Maps.IsMap D ∧ ∀ a l, ok a → keyOf P k (kv a) = some l →
  Maps.has D l = (f a).isSome ∧ D.atKey l (.lit (.int .i64 0)) = .lit (.int .i64 ((f a).getD 0))
section
variable {α : Type} {P : Program} {k e t : TypeId} {kv : α → Value} {ok : α → Prop} {w : World} {b n : Nat} {f : α → Option Int}
theorem mapI_made (P : Program) (k e : TypeId) (kv : α → Value) (ok : α → Prop) (w : World) : MapI P k e kv ok (w.alloc (.map #[] 0)) w.heap.size 0 (fun _ => none) :=
 ⟨.map [], World.ownsMap_made w P k _, ⟨[], rfl⟩, fun _ _ _ _ => ⟨rfl, rfl⟩⟩
theorem MapI.kept {w' : World} {row : Option Nat} (h : MapI P k e kv ok w b n f) (hg : w.grownBy w' row) (hne : some b ≠ row) : MapI P k e kv ok w' b n f := by
 obtain ⟨D, h1, h2, h3⟩ := h
 exact ⟨D, h1.kept hg hne, h2, h3⟩
theorem MapI.congr {f' : α → Option Int} (h : MapI P k e kv ok w b n f) (hf : ∀ a, f a = f' a) : MapI P k e kv ok w b n f' := by
 have : f = f' := funext hf
 rw [← this]; exact h
theorem zMr {n' : Nat} (h : MapI P k e kv ok w b n f) (hn : n ≤ n') : MapI P k e kv ok w b n' f := by
 obtain ⟨D, h1, h2⟩ := h
 exact ⟨D, h1.mono hn, h2⟩
theorem MapI.lt (h : MapI P k e kv ok w b n f) : b < w.heap.size := by
 obtain ⟨D, h1, _⟩ := h
 exact h1.lt
theorem MapI.look (h : MapI P k e kv ok w b n f) (K : Keys P k kv ok) (ht : P.underlying t = some (.map k e)) (he : P.underlying e = some (.int .i64)) (hz : (zeroValue e).run P w = .ok (.int .i64 0) w) (a : α) (ha : ok a) :
  (Instr.lookup t (.map (some b)) (kv a) true).run P w = .ok (.tuple #[.int .i64 ((f a).getD 0), .bool (f a).isSome]) w := by
 obtain ⟨D, h1, _, h3⟩ := h
 obtain ⟨l, hl⟩ := K.lit a ha
 obtain ⟨h4, h5⟩ := h3 a l ha hl
 obtain ⟨v, ps, hr, hv⟩ := h1.look_ok K.keyed ht hz (zd := .lit (.int .i64 0)) (zp := []) (plainElem_int he (by decide)) hl
 obtain ⟨c, rfl, hc, _⟩ := plainElem_int_inv he hv
 rw [h5] at hc
 simp only [Prod.mk.injEq, DataW.lit.injEq, Lit.int.injEq, true_and] at hc
 rw [hr, h4, hc.1]
theorem MapI.put (h : MapI P k e kv ok w b n f) (K : Keys P k kv ok) (ht : P.underlying t = some (.map k e)) (he : P.underlying e = some (.int .i64)) (hn : n < maxLen) (a : α) (ha : ok a) (v : Int) (hv : (Lit.int .i64 v).wf = true) [DecidableEq α] :
  ∃ w', (Instr.mapUpdate t (.map (some b)) (kv a) (.int .i64 v)).run P w = .ok () w' ∧ MapI P k e kv ok w' b (n + 1) (fun x => if x = a then some v else f x) ∧ w.grownBy w' (some b) := by
 obtain ⟨D, h1, h2, h3⟩ := h
 obtain ⟨l, hl⟩ := K.lit a ha
 have hkl := K.keyed.key hl
 obtain ⟨w', hr, ho, hg⟩ := h1.update K.keyed ht hn hl (plainElem_int he hv)
 refine ⟨w', hr, ⟨_, ho, ?_, fun x lx hx hlx => ?_⟩, hg⟩
 ·obtain ⟨es, rfl⟩ := h2; exact ⟨_, rfl⟩
 ·by_cases hxa : x = a
  ·subst hxa
   rw [hl] at hlx; cases hlx
   simp only [if_true]
   exact ⟨Maps.has_put_same h2 hkl _, Maps.atKey_put_same h2 hkl _ _⟩
  ·have hne : lx ≠ l := fun e => by subst e; exact hxa (K.inj _ _ (K.keyed.inj hlx hl))
   simp only [if_neg hxa]
   rw [Maps.has_put_other hne, Maps.atKey_put_other hne]
   exact h3 x lx hx hlx
end
theorem keyOf_sii {P : Program} {k : TypeId} {f0 f1 f2 : Field} (hu : P.underlying k = some (.struct #[f0, f1, f2])) (hk : P.keyType k = true) (hc : P.cellsOf k = 3)
  (hn : (#[f0, f1, f2] : Array Field).all (·.name != "_") = true) (o0 : f0.offset = 0) (o1 : f1.offset = 1) (o2 : f2.offset = 2) (c0 : P.cellsOf f0.type = 1) (c1 : P.cellsOf f1.type = 1) (c2 : P.cellsOf f2.type = 1)
  (u0 : P.underlying f0.type = some .string) (u1 : P.underlying f1.type = some (.int .i64)) (u2 : P.underlying f2.type = some (.int .i64)) (hs : 0 < P.types.size) (s : Bs) (a b : Int) (h1 : s.length ≤ maxLen)
  (h2 : (Lit.int .i64 a).wf = true) (h3 : (Lit.int .i64 b).wf = true) : ∃ l, keyOf P k (.agg #[str s, .int .i64 a, .int .i64 b]) = some l := by
 obtain ⟨m, hm⟩ : ∃ m, P.types.size + 1 = m + 2 := ⟨P.types.size - 1, by omega⟩
 simp only [keyOf, hu, hk, Value.formed, hc, Bool.true_and, Value.cells, hm]
 rw [if_pos (by simp)]
 have e0 : P.keyLits (m + 1) f0.type [str s] = some [.string s] := by
  simp [Program.keyLits, u0, ByteArray.size_mk', h1]
 have e1 : P.keyLits (m + 1) f1.type [.int .i64 a] = some [.int .i64 a] := by simp [Program.keyLits, u1, h2]
 have e2 : P.keyLits (m + 1) f2.type [.int .i64 b] = some [.int .i64 b] := by simp [Program.keyLits, u2, h3]
 have e : P.keyLits (m + 2) k [str s, .int .i64 a, .int .i64 b] = some [.string s, .int .i64 a, .int .i64 b] := by
  unfold Program.keyLits
  simp only [hu, List.length_cons, List.length_nil, hc, hn, and_self, if_true]
  simp [o0, o1, o2, c0, c1, c2, e0, e1, e2]
 exact ⟨_, by simp [e]; rfl⟩
end Go.Proofs.Ytblhnenhonfpnaa
