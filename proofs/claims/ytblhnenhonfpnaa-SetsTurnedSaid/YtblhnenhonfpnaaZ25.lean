/- DERIVED. Texts put together: Gt1. -/
import Derived.Test.YtblhnenhonfpnaaZ20
import Derived.Test.YtblhnenhonfpnaaZ24
set_option maxRecDepth 1000000
set_option maxHeartbeats 32000000
namespace Go.Proofs.Ytblhnenhonfpnaa
open Go Go.RowKit
def mkB (l : Bs) : ByteArray := ⟨l.toArray⟩
def setT (s : St) : SetX := ⟨mkB s.name, s.type, s.cls, s.ttl, s.data.map mkB⟩
def gS (x : SetX) : List Value := x.cs
def trT (l : List SetX) : Value := treeV 5 l.length (l.flatMap gS)
def rcT (x : RcX) : Rc := ⟨bs x.n, x.t, x.c, x.ttl, bs x.d⟩
theorem row_dv {w' : World} {B sz n : Nat} {e : TypeId} {v : Value} {xs cs : List Value} {F : Nat → Option Obj} (hF : ∀ b, B ≤ b → F b = w'.heap[b]?) (h : w'.ownsRow B e sz v n xs) (hl : cs.length = n * sz) (hc : ∀ (j : Nat) (u y : Value), cs[j]? = some u → xs[j]? = some y → DV F u y) : DV F (treeV sz n cs) v := by
 obtain ⟨hxl, ⟨rfl, rfl⟩ | ⟨g, cap, cur, rfl, hg, hb, h1, h2, h3, h4⟩⟩ := h
 ·have : cs = [] := List.eq_nil_of_length_eq_zero (by rw [hl, Nat.zero_mul])
  subst this
  exact .tree sz 0 0 0 0 [] none (fun _ => undef) (by simp) (Nat.le_refl _) (Nat.zero_le _) (.inr ⟨rfl, rfl⟩) (fun j hj => by simp at hj) (fun j v hj => by simp at hj)
 ·have hle : n * sz ≤ cur.size := by rw [h3]; exact Nat.mul_le_mul_right _ h1
  refine .tree sz n cap g 0 cs _ (fun j => cur.toList.getD j undef) hl h1 h2 (.inl rfl) (fun j hj => ?_) (fun j u hj => ?_)
  ·unfold fzc
   rw [hF g hg, hb, Nat.zero_add]
   have : j < cur.toList.length := by rw [Array.length_toList]; omega
   simp only [List.getD_eq_getElem?_getD, List.getElem?_eq_getElem this, Option.getD_some]
   rw [← Array.getElem?_toList, List.getElem?_eq_getElem this]
  ·have hjl : j < n * sz := by have := (List.getElem?_eq_some_iff.1 hj).1; omega
   have hjc : j < cur.toList.length := by rw [Array.length_toList]; omega
   have hx : xs[j]? = some (cur.toList.getD j undef) := by
    rw [← h4, List.getElem?_take_of_lt hjl, List.getD_eq_getElem?_getD, List.getElem?_eq_getElem hjc]; rfl
   exact hc j u _ hj hx
theorem zMg (x : SetX) : (gS x).length = 5 := rfl
theorem zRx {w' : World} {B : Nat} {v : Value} {L : List St} {vds : List Value} {F : Nat → Option Obj} (hF : ∀ b, B ≤ b → F b = w'.heap[b]?) (h : OwnSets B w' v L vds) : DV F (trT (L.map setT)) v := by
 have hlen := zAc gS 5 zMg (L.map setT)
 unfold trT
 rw [List.length_map] at hlen ⊢
 refine row_dv hF h.row hlen fun j u y hu hy => ?_
 have hj : j < L.length * 5 := by have := (List.getElem?_eq_some_iff.1 hu).1; omega
 have hi : j / 5 < L.length := Nat.div_lt_of_lt_mul (by omega)
 have hr : j % 5 < 5 := Nat.mod_lt _ (by decide)
 have hj2 : j = j / 5 * 5 + j % 5 := by omega
 have hs : L[j / 5]? = some L[j / 5] := List.getElem?_eq_getElem hi
 have hvi : j / 5 < vds.length := by rw [h.len]; exact hi
 have hvd : vds[j / 5]? = some vds[j / 5] := List.getElem?_eq_getElem hvi
 have hi2 : j / 5 < (L.map setT).length := by rw [List.length_map]; exact hi
 obtain ⟨_, p2⟩ := zGc gS 5 zMg (L.map setT) (j / 5) hi2
 have e1 : (gS (setT L[j / 5]))[j % 5]? = some u := by
  have : (gS ((L.map setT)[j / 5]'hi2))[j % 5]? = some u := by
   rw [← p2, List.getElem?_take_of_lt hr, List.getElem?_drop, ← hj2]; exact hu
  simpa using this
 have e2 : (zAg L[j / 5] vds[j / 5])[j % 5]? = some y := by
  have := zDy 5 (List.zipWith zAg L vds) (zLo L vds) (j / 5) (j % 5) _ (zKi hs hvd) hr
  rw [← this, ← hj2]; exact hy
 have hd := h.data _ _ _ hs hvd
 generalize L[j / 5] = s at e1 e2 hd
 generalize vds[j / 5] = vd at e2 hd
 clear hu hy hj hi2 p2 hs hvd
 have plain : ∀ u, plainV 8 u = true → u = y → DV F u y := fun u h e => by subst e; exact .plain _ h
 rcases (by omega : j % 5 = 0 ∨ j % 5 = 1 ∨ j % 5 = 2 ∨ j % 5 = 3 ∨ j % 5 = 4) with q | q | q | q | q <;> rw [q] at e1 e2
 ·cases e1; cases e2; exact .plain _ rfl
 ·cases e1; cases e2; exact .plain _ rfl
 ·cases e1; cases e2; exact .plain _ rfl
 ·cases e1; cases e2; exact .plain _ rfl
 ·have e1 : some (trS (s.data.map mkB)) = some u := e1
  have e2 : some vd = some y := e2
  have e1 := Option.some.inj e1
  have e2 := Option.some.inj e2
  subst e1; subst e2
  show DV F (treeV 1 (s.data.map mkB).length ((s.data.map mkB).flatMap layS.g)) vd
  rw [List.length_map]
  refine row_dv hF hd (by rw [flatS]; simp) fun k u y hu hy => ?_
  rw [flatS, List.map_map] at hu
  have : y = u := by
   rw [List.getElem?_map] at hu hy
   cases hk : s.data[k]? with
   | none => rw [hk] at hu; cases hu
   | some z => rw [hk] at hu hy; cases hu; cases hy; rfl
  subst this
  rw [List.getElem?_map] at hu
  cases hk : s.data[k]? with
  | none => rw [hk] at hu; cases hu
  | some z => rw [hk] at hu; cases hu; exact .plain _ rfl
theorem toL_bs (s : ByteArray) : str (bs s) = .string s := by simp [bs]
theorem zSj {E : Env} {w : World} {l : List RcX} {v' : Value} (hz : ∀ b ob, E.fz b = some ob → w.heap[b]? = some ob) (h : VR E (trR l) v') (hne : l ≠ []) : ReadsRecs w v' (l.map rcT) := by
 cases h with
 | func _ _ _ _ _ hf => simp [plainFn] at hf
 | deep _ _ _ _ _ _ _ hd =>
  cases hd with
  | plain _ hp => simp [plainV, plainFn] at hp
  | tree z n c b o cs a' x hl hc hm ha h1 h2 =>
   have hlen : (l.flatMap layR.g).length = l.length * 5 := zAc layR.g 5 layR.len l
   have hcells : ∀ x : RcX, (rcT x).cells = layR.g x := fun x => by
    show [str (bs x.n), _, _, _, str (bs x.d)] = _
    rw [toL_bs, toL_bs]; rfl
   rcases ha with rfl | ⟨h0, _⟩
   ·refine ⟨l.map layR.g, by simp, ⟨?_, .inr ⟨b, o, c, ?_, ?_, hm, fun j u hj => ?_⟩⟩, ?_, ?_⟩
    ·rw [← List.flatMap_def, List.length_map]; exact hlen
    ·rw [List.length_map]
    ·rw [List.length_map]; exact hc
    ·rw [← List.flatMap_def] at hj
     have hjl : j < (l.flatMap layR.g).length := (List.getElem?_eq_some_iff.1 hj).1
     have e1 := h1 j hjl
     have e2 := h2 j u hj
     have hp : plainV 8 u = true := List.all_eq_true.1 (zAm layR.g layR.plain l) u (List.mem_of_getElem? hj)
     have e3 : x j = u := zBi 8 hp (DV.vr (E := ⟨fun _ => False, fun _ => 0, fun _ => 0, fun _ => 0, fun _ => 0, fun _ => False, E.fz⟩) e2)
     rw [e3] at e1
     exact fz_cell hz e1
    ·intro cs hcs
     obtain ⟨x, _, rfl⟩ := List.mem_map.1 hcs
     rfl
    ·intro i y cs hy hcs
     rw [List.getElem?_map] at hy hcs
     cases hk : l[i]? with
     | none => rw [hk] at hy; cases hy
     | some z =>
      rw [hk] at hy hcs
      cases hy; cases hcs
      exact (hcells z).symm
   ·exact absurd (List.eq_nil_of_length_eq_zero h0) hne
def grp (l : List RcX) : List SetX := (gloop (l.map rcT)).1.map setT
def okR (x : RcX) : Prop := x.n.size ≤ 1000000000 ∧ (Lit.int .i64 x.t).wf = true ∧ (Lit.int .i64 x.c).wf = true
noncomputable def tbGt : Tb Try.prog 0 := tbOf mixed []
theorem group_nil : ∃ r, FnS Try.prog 0 12 [trR []] .e 0 r ∧ ∃ H m wr, r = .ret (.slice none 0 0) H m wr := by
 refine zMe mixed tbGt [] Try.func12 (c := bodyOf Try.f12) (by kernel_rfl) ?_
 refine LW.round (zGp tbGt [] 0 _ none mixed _ _ _ ?_)
 exact ⟨_, _, _, rfl⟩
end Go.Proofs.Ytblhnenhonfpnaa
