/- DERIVED. Texts put together: Cl1. -/
import Derived.Sort.OwnSorted
import Derived.Test.YtblhnenhonfpnaaZ12
import Derived.Test.YtblhnenhonfpnaaZ13
import Derived.Test.YtblhnenhonfpnaaZ14
set_option maxRecDepth 1000000
set_option maxHeartbeats 32000000
namespace Go.Proofs.Ytblhnenhonfpnaa
open Go Go.RowKit Go.Sort
def layS : Lay ByteArray where
 g s := [.string s]
 k := 1
 t := 9
 len _ := rfl
 pos := Nat.one_pos
 plain _ := rfl
 inj x y h := by simpa using h
abbrev trS (l : List ByteArray) : Value := treeV 1 l.length (l.flatMap layS.g)
theorem flatS (l : List ByteArray) : l.flatMap layS.g = l.map Value.string := by
 induction l with
 | nil => rfl
 | cons x l ih => rw [List.flatMap_cons, ih]; rfl
theorem fz_cell {F : Nat → Option Obj} {w : World} (hz : ∀ b ob, F b = some ob → w.heap[b]? = some ob) {b o : Nat} {v : Value} (h : fzc F b o = some v) : w.cell? ⟨b, o, none⟩ = some v := by
 have := zKx (F' := fun b => w.heap[b]?) hz h
 rw [← this]; unfold fzc World.cell?; rfl
theorem dv_str {F : Nat → Option Obj} {s : ByteArray} {y : Value} (h : DV F (.string s) y) : y = .string s := by
 cases h; rfl
theorem zIy {E : Env} {w : World} {l : List ByteArray} {v' : Value} (hz : ∀ b ob, E.fz b = some ob → w.heap[b]? = some ob) (h : VR E (trS l) v') :
  ∃ a' c, v' = .slice a' l.length c ∧ l.length ≤ c ∧ c ≤ maxLen ∧ ((∃ b o, a' = some ⟨b, o, none⟩ ∧ ∀ j (hj : j < l.length), w.cell? ⟨b, o + j, none⟩ = some (.string l[j])) ∨ (l = [] ∧ c = 0)) := by
 cases h with
 | func _ _ _ _ _ hf => simp [plainFn] at hf
 | deep _ _ _ _ _ _ _ hd =>
  cases hd with
  | plain _ hp => simp [plainV, plainFn] at hp
  | tree z n c b o cs a' x hl hc hm ha h1 h2 =>
   refine ⟨a', c, rfl, hc, hm, ?_⟩
   rcases ha with rfl | ⟨h0, rfl⟩
   ·refine .inl ⟨b, o, rfl, fun j hj => ?_⟩
    have hlen : (l.flatMap layS.g).length = l.length := by rw [flatS]; simp
    have e1 := h1 j (by rw [hlen]; exact hj)
    have e2 := h2 j (.string l[j]) (by rw [flatS]; simp [hj])
    rw [dv_str e2] at e1
    exact fz_cell hz e1
   ·exact .inr ⟨List.eq_nil_of_length_eq_zero h0, rfl⟩
theorem zIe {E : Env} {v : Value} {args' : Array Value} (h : VL E [v] args'.toList) : ∃ v', args' = #[v'] ∧ VR E v v' := by
 generalize hx : args'.toList = x at h
 cases h with | cons _ v' _ l' hv ht => cases ht; exact ⟨v', Array.ext' hx, hv⟩
theorem un_str : Try.prog.underlying 9 ≠ some (.int .u8) := by rw [show Try.prog.underlying 9 = some .string from (by kernel_rfl)]; simp
theorem size_str : (Try.prog.info? 9).map (·.size) = some 1 := by kernel_rfl
theorem hr_keep {P : Program} {E : Env} {G : Gh} {w w' : World} (hE : HR P E G w) (hb : Below w.heap.size w w') : HR P E G w' ∧ Stp E E [] w w' := by
 obtain ⟨b1, b2, b3, b4, b5⟩ := hb
 refine ⟨⟨fun id hd => Nat.lt_of_lt_of_le (hE.lt id hd) b4, hE.dom, fun id o ho => ?_, hE.inj, hE.ro, hE.fz_below b5, hE.fn, Nat.lt_of_lt_of_le hE.pos b4⟩, .refl E, b1, b2, b3, b4, fun b hb _ => b5 b hb, fun id h1 h2 => absurd h2 h1, fun _ _ h => .inl h⟩
 have hd := hE.live (id := id) (by rw [ho]; simp)
 exact (hE.obj id o ho).mono (.refl E) hd (b5 _ (hE.lt id hd))
theorem row_end {P : Program} {E : Env} {H : Tr AObj} {n : Nat} {w w' : World} {e : TypeId} {sz : Nat} {xs : List Value} {len : Nat} {v : Value} (hE : HR P E H.get w) (hf : Free E n (n + 1)) (hx : plainL xs = true) (hi : (P.info? e).map (·.size) = some sz) (hne : P.underlying e ≠ some (.int .u8))
  (hb : Below w.heap.size w w') (hrow : w'.ownsRow w.heap.size e sz v len xs) (hz0 : len ≠ 0) : CallEnd P E n w (.ret (.slice (some ⟨n, 0, none⟩) len U) (H.set n (some (.cells xs e))) (n + 1) []) (.returned v) w' := by
 obtain ⟨hxl, hown⟩ := hrow
 rcases hown with ⟨_, h0⟩ | ⟨g, cap, cur, rfl, hg, hc, h1, h2, h3, h4⟩
 ·exact absurd h0 hz0
 ·have hnd : ¬ E.dom n := hf n (Nat.le_refl _) (by omega)
  have hle : xs.length ≤ cur.size := by
   rw [h3, hxl]; exact Nat.mul_le_mul_right _ h1
  obtain ⟨k1, k2⟩ := hr_fresh hE hnd hb hg hc hi (xs := xs) (by rw [hxl]; exact h4) hx hle hne
  refine ⟨_, _, rfl, ?_, k2.ext, dom1, by rw [zBw]; exact k1, k2⟩
  have := VR.su (E := E.push n g cur.size sz) n 0 len cap (E.push_dom n g cur.size sz) h1 h2 (by rw [Env.push_sz, Env.push_tot, h3]; omega)
  rw [Env.push_ρ, Env.push_sh] at this
  exact this
theorem clone_ne {l : List ByteArray} (hl : l ≠ []) (hn : l.length ≤ 1000000) (H : Tr AObj) (n : Nat) (hH : endGrw n H (.ret (.slice (some ⟨n, 0, none⟩) l.length U) (H.set n (some (.cells (l.flatMap layS.g) 9))) (n + 1) [])) :
  CallOK Try.prog 0 44 [trS l] H n (.ret (.slice (some ⟨n, 0, none⟩) l.length U) (H.set n (some (.cells (l.flatMap layS.g) 9))) (n + 1) []) := by
 refine ⟨hH, fun E w args' _ hva hE _ hf => ?_⟩
 obtain ⟨v', rfl, hv⟩ := zIe hva
 obtain ⟨a', c, rfl, h1, h2, ⟨b, o, rfl, hc⟩ | ⟨e, _⟩⟩ := zIy hE.fz hv
 ·refine (callsIn_wide.2 (AnyG.slices_Clone_string zIc b o l.length c l w (Nat.le_refl _) (by omega) (fun j hj => by rw [List.getD_eq_getElem?_getD, List.getElem?_eq_getElem hj]; exact hc j hj))).mono ?_
  rintro e w' ⟨v', rfl, hrow, _, hb⟩
  rw [List.take_length, ← flatS] at hrow
  exact row_end hE hf (zAm layS.g layS.plain _) size_str un_str hb hrow (fun e => hl (List.eq_nil_of_length_eq_zero e))
 ·exact absurd e hl
theorem clone_nil (H : Tr AObj) (n : Nat) : CallOK Try.prog 0 44 [trS []] H n (.ret (trS []) H n []) := by
 refine ⟨Grw.refl _ _ _, fun E w args' _ hva hE _ hf => ?_⟩
 obtain ⟨v', rfl, hv⟩ := zIe hva
 have em : ∀ (a' : Option Addr) (c : Nat), c ≤ maxLen → (c = 0 ∨ ∃ b o, a' = some ⟨b, o, none⟩) → VR E (trS []) (.slice a' 0 c) := fun a' c hc h => by
  refine .deep _ _ _ _ _ _ _ ?_
  rcases h with rfl | ⟨b, o, rfl⟩
  ·exact .tree 1 0 0 0 0 [] a' (fun _ => undef) (by simp) (Nat.le_refl _) (Nat.zero_le _) (.inr ⟨rfl, rfl⟩) (fun j hj => by simp at hj) (fun j v hj => by simp at hj)
  ·exact .tree 1 0 c b o [] _ (fun _ => undef) (by simp) (Nat.zero_le _) hc (.inl rfl) (fun j hj => by simp at hj) (fun j v hj => by simp at hj)
 obtain ⟨a', c, rfl, h1, h2, _⟩ := zIy hE.fz hv
 cases a' with
 | none =>
  refine (callsIn_wide.2 (AnyG.slices_Clone_string_nil zIc ([] : List ByteArray).length c w)).mono ?_
  rintro e w' ⟨rfl, rfl⟩
  exact ⟨E, _, rfl, em none 0 (Nat.zero_le _) (.inl rfl), .refl E, .refl E _, hE, .refl E _⟩
 | some a =>
  refine (callsIn_wide.2 (AnyG.slices_Clone_string_zero zIc a c w)).mono ?_
  rintro e w' ⟨v', rfl, ⟨_, hrow⟩, _, hb⟩
  obtain ⟨k1, k2⟩ := hr_keep hE hb
  rcases hrow with ⟨rfl, _⟩ | ⟨g, cap, cur, rfl, _, _, _, hm, _, _⟩
  ·exact ⟨E, _, rfl, em none 0 (Nat.zero_le _) (.inl rfl), .refl E, .refl E _, k1, k2⟩
  ·exact ⟨E, _, rfl, em _ cap hm (.inr ⟨g, 0, rfl⟩), .refl E, .refl E _, k1, k2⟩
def cloO (l : List ByteArray) (H : Tr AObj) (n : Nat) : Res := match l with
 | [] => .ret (trS []) H n []
 | x :: r => .ret (.slice (some ⟨n, 0, none⟩) (r.length + 1) U) (H.set n (some (.cells ((x :: r).flatMap layS.g) 9))) (n + 1) []
theorem trS_inj {a b : List ByteArray} (h : [trS a] = [trS b]) : a = b := by simp only [List.cons.injEq, and_true] at h; exact zFv layS h
theorem grw_new (H : Tr AObj) (n : Nat) (o : AObj) (v : Value) : endGrw n H (.ret v (H.set n (some o)) (n + 1) []) := by
 refine ⟨Nat.le_succ _, fun k hk _ => ?_, fun hl k hk => ?_⟩
 ·rw [Tr.get_set, if_neg (by omega)]
 ·rw [Tr.get_set, if_neg (by omega)]; exact hl k (by omega)
noncomputable def ct_clone : Ct Try.prog 0 :=
 CtR.ct { f := 44, X := List ByteArray, pre := fun l a _ _ => a = [trS l] ∧ l.length ≤ 1000000, out := fun l H n => cloO l H n,
          ok := fun l a H n ⟨h1, h2⟩ => by
           subst h1
           cases l with
           | nil => exact clone_nil H n
           | cons x r => exact clone_ne (by simp) h2 H n (grw_new _ _ _ _),
          uniq := fun x y a H n ⟨h1, _⟩ ⟨k1, _⟩ => by rw [h1] at k1; rw [trS_inj k1],
          tr := fun l H n K => (l = [] → K (cloO [] H n)) ∧ ∀ x r, l = x :: r → K (cloO (x :: r) H n),
          trOk := fun l H n K h => by
           cases l with
           | nil => exact h.1 rfl
           | cons x r => exact h.2 x r rfl }
def sortS (l : List ByteArray) : List ByteArray := ((l.map (·.data.toList)).mergeSort fun x y => decide (x ≤ y)).map fun b => ⟨b.toArray⟩
theorem zNg (l : List ByteArray) : (sortS l).length = l.length := by unfold sortS; simp
theorem sortS_enc (l : List ByteArray) : (sortS l).flatMap layS.g = ((l.map (·.data.toList)).mergeSort fun x y => decide (x ≤ y)).map encStr := by
 rw [flatS]; unfold sortS; rw [List.map_map]; rfl
theorem sort_ok {l : List ByteArray} (hl0 : l ≠ []) (hn : l.length ≤ 1000000) {b : Nat} {H : Tr AObj} {n : Nat} (hb : H.get b = some (.cells (l.flatMap layS.g) 9)) :
  CallOK Try.prog 0 45 [.slice (some ⟨b, 0, none⟩) l.length U] H n (.ret (.tuple #[]) (H.set b (some (.cells ((sortS l).flatMap layS.g) 9))) n [b]) := by
 refine ⟨⟨Nat.le_refl _, fun k _ hk => by rw [Tr.get_set, if_neg (fun e => hk (by rw [e]; simp))], fun hl k hk => ?_⟩, fun E w args' _ hva hE _ hf => ?_⟩
 ·rw [Tr.get_set]
  by_cases e : k = b
  ·exfalso; subst e; rw [hl k hk] at hb; cases hb
  ·rw [if_neg e]; exact hl k hk
 obtain ⟨v', rfl, hv⟩ := zIe hva
 obtain ⟨arr, fr, p1, p2, p3, p4, p5, p6, p7, p8⟩ := hE.obj b _ hb
 have hfr : fr = (0, 0) := p2.elim id fun h => absurd h.2 un_str
 have hd : E.dom b := hE.live (by rw [hb]; simp)
 have hro : ¬ E.ro b := fun h => by have := hE.ro b _ hb h; exact this
 have hlt : E.ρ b < w.heap.size := hE.lt b hd
 obtain ⟨_, ⟨hU, _⟩ | ⟨_, c, rfl, h1, h2, _⟩ | ⟨h0, _⟩⟩ := hv.slice_inv
 ·exact absurd rfl hU
 rotate_left
 ·exact absurd (List.eq_nil_of_length_eq_zero h0) hl0
 have hlen : (l.flatMap layS.g).length = l.length := by rw [flatS]; simp
 obtain ⟨ss, hss⟩ : ∃ ss, ss = l.map (·.data.toList) := ⟨_, rfl⟩
 have hsl : ss.length = l.length := by rw [hss]; simp
 have hH : Holds encStr w (E.ρ b) 0 ss.toArray := fun j hj => by
  have hj : j < l.length := by simpa [hsl] using hj
  obtain ⟨u, q1, q2, q3⟩ := zAs (hE.obj b _ hb) j (.string l[j]) (by rw [flatS]; simp [hj])
  rw [Nat.zero_add]
  cases q3 with
  | string =>
   refine ⟨?_, q2⟩
   rw [q1]
   have : ss.toArray[j]! = l[j].data.toList := by subst hss; simp [List.getElem?_eq_getElem hj]
   rw [this]
 have main := AnyM.slices_Sort_string zQh (E.ρ b) 0 c ss w hH hlt (by omega)
 rw [hsl] at main
 rw [p7, Nat.zero_add]
 refine (callsIn_wide.2 main).mono ?_
 rintro e w' ⟨rfl, nn, os, rfl⟩
 obtain ⟨g1, g2, g3, g4, g5⟩ := grownBy_sorted (w := w) (g := E.ρ b) (n := nn) (os := os) (ss.mergeSort fun x y => decide (x ≤ y)).toArray
 have hblk : ∀ i, i < w.heap.size → E.ρ b ≠ i → (grow (putRow encStr (Sort.ahead w nn) (E.ρ b) 0 (ss.mergeSort fun x y => decide (x ≤ y)).toArray) os).heap[i]? = w.heap[i]? := fun i hi hne => g5 i hi (fun e => hne (by cases e; rfl))
 refine ⟨E, _, rfl, .tuple _ _ .nil, .refl E, .refl E _, ⟨fun id hd => Nat.lt_of_lt_of_le (hE.lt id hd) g4, fun id hid => ?_, fun id o ho => ?_, fun i j hi hj h e => ?_, fun id o ho h => ?_, fun b2 ob hz => ?_, fun id hi h => ?_, Nat.lt_of_lt_of_le hE.pos g4⟩, ⟨.refl E, g1, g2, g3, g4, fun i hi h => hblk i hi (fun e => h b (by simp) hd hro e), fun id q1 q2 => absurd q2 q1, fun _ _ h => .inl h⟩⟩
 ·rw [Tr.get_set, if_neg (fun e => hid (by rw [e]; exact hd))]; exact hE.dom id hid
 ·rw [Tr.get_set] at ho
  by_cases he : id = b
  ·rw [if_pos he] at ho; cases ho; subst he
   have hsl2 : (ss.mergeSort fun x y => decide (x ≤ y)).length = l.length := by rw [List.length_mergeSort, hsl]
   have hle : l.length ≤ arr.size := by rw [← hlen]; exact p5
   have hfl : (sortS l).flatMap layS.g = (ss.mergeSort fun x y => decide (x ≤ y)).map encStr := by rw [sortS_enc, hss]
   refine ⟨_, fr, heap_sorted _ p1, .inl hfr, by simp [putCells]; exact p3, p4, ?_, ?_, p7, fun h0 => absurd h0 un_str⟩
   ·rw [hfl, List.length_map, hsl2]; simp [putCells]; exact hle
   ·rw [hfl, List.length_map, take_putCells arr _ (by omega), ← hfl]
    exact zBd (zAm layS.g layS.plain _)
  ·rw [if_neg he] at ho
   have hdi := hE.live (id := id) (by rw [ho]; simp)
   exact (hE.obj id o ho).mono (.refl E) hdi (hblk _ (hE.lt id hdi) fun e => he (hE.inj b id (by rw [hb]; simp) (by rw [ho]; simp) (.inl hro) e).symm)
 ·have key : ∀ i, (H.set b (some (AObj.cells ((sortS l).flatMap layS.g) 9))).get i ≠ none → H.get i ≠ none := fun i h => by
   rw [Tr.get_set] at h
   by_cases he : i = b
   ·rw [he, hb]; simp
   ·rwa [if_neg he] at h
  exact hE.inj i j (key i hi) (key j hj) h e
 ·rw [Tr.get_set] at ho
  by_cases he : id = b
  ·subst he; exact absurd h hro
  ·rw [if_neg he] at ho; exact hE.ro id o ho h
 ·have h1 := hE.fz b2 ob hz
  have h2 : b2 < w.heap.size := (Array.getElem?_eq_some_iff.1 h1).1
  rw [hblk b2 h2 (fun e => by have := hE.fn b (by rw [hb]; simp) hro; rw [e, hz] at this; cases this)]
  exact h1
 ·rw [Tr.get_set] at hi
  by_cases he : id = b
  ·subst he; exact hE.fn id (by rw [hb]; simp) h
  ·rw [if_neg he] at hi; exact hE.fn id hi h
theorem sort_nil (H : Tr AObj) (n : Nat) : CallOK Try.prog 0 45 [trS []] H n (.ret (.tuple #[]) H n []) := by
 refine ⟨Grw.refl _ _ _, fun E w args' _ hva hE _ hf => ?_⟩
 obtain ⟨v', rfl, hv⟩ := zIe hva
 obtain ⟨a', c, rfl, h1, h2, _⟩ := zIy hE.fz hv
 refine (callsIn_wide.2 (AnyM.slices_Sort_string_none zQh a' c w)).mono ?_
 rintro e w' ⟨rfl, rfl⟩
 exact ⟨E, _, rfl, .tuple _ _ .nil, .refl E, .refl E _, hE, .refl E _⟩
noncomputable def ct_sort0 : Ct Try.prog 0 :=
 CtR.ct { f := 45, X := Unit, pre := fun _ a _ _ => a = [trS []], out := fun _ H n => .ret (.tuple #[]) H n [],
          ok := fun _ a H n h1 => by subst h1; exact sort_nil H n, uniq := fun _ _ _ _ _ _ _ => rfl }
noncomputable def ct_sort1 : Ct Try.prog 0 :=
 CtR.ct { f := 45, X := List ByteArray × Nat, pre := fun x a H _ => a = [.slice (some ⟨x.2, 0, none⟩) x.1.length U] ∧ (x.1 ≠ [] ∧ x.1.length ≤ 1000000) ∧ H.get x.2 = some (.cells (x.1.flatMap layS.g) 9),
          out := fun x H n => .ret (.tuple #[]) (H.set x.2 (some (.cells ((sortS x.1).flatMap layS.g) 9))) n [x.2],
          ok := fun x a H n ⟨h1, h2, h3⟩ => by subst h1; exact sort_ok h2.1 h2.2 h3,
          uniq := fun x y a H n ⟨h1, _, h3⟩ ⟨k1, _, k3⟩ => by
           rw [h1] at k1
           simp only [List.cons.injEq, Value.slice.injEq, Option.some.injEq, Addr.mk.injEq, and_true, true_and] at k1
           obtain ⟨l, b⟩ := x
           obtain ⟨l', b'⟩ := y
           have e1 : b = b' := k1.1
           subst e1
           rw [show H.get b = _ from h3] at k3
           simp only [Option.some.injEq, AObj.cells.injEq, and_true] at k3
           have e2 : l = l' := layS.flat_inj _ _ k3
           rw [e2],
          tr := fun x H n K => frcN x.2 fun b => K (.ret (.tuple #[]) (H.set b (some (.cells ((sortS x.1).flatMap layS.g) 9))) n [b]),
          trOk := fun x H n K h => by rw [zCy] at h; exact h }
def isTree : List Value → Bool
 | [.slice _ _ _] => false
 | _ => true
noncomputable def ct_sort : Ct Try.prog 0 := Ct.alt isTree ct_sort0 ct_sort1 rfl
end Go.Proofs.Ytblhnenhonfpnaa
