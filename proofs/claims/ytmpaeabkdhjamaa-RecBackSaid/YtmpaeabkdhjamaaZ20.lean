/- DERIVED. Texts put together: A1, A2. -/
import Derived.Deep.Slices
import Derived.HandedShaped
import Derived.Test.YtmpaeabkdhjamaaZ12
import Derived.Test.YtmpaeabkdhjamaaZ19
set_option maxRecDepth 1000000
set_option maxHeartbeats 32000000
namespace Go.Proofs.Ytmpaeabkdhjamaa
open Go Go.Joins Go.ChangeShapes Go.WideShapes Go.RowKit Go.Deep
def WinAt (w : World) (b off : Nat) (c : List Value) : Prop := ∀ j v, c[j]? = some v → w.cell? ⟨b, off + j, none⟩ = some v
structure Win where
 b : Nat
 off : Nat
 c : List Value
 z : Nat
instance : Inhabited Win := ⟨⟨0, 0, [], 0⟩⟩
def Env.wins (ws : List Win) : Env := ⟨fun k => k < ws.length, fun k => (ws.getD k default).b, fun _ => 0, fun k => (ws.getD k default).z, fun k => (ws.getD k default).off, fun k => k < ws.length⟩
def zDl : Nat → List Win → List (Nat × AObj)
 | _, [] => []
 | k, x :: l => (k, .win x.c x.z) :: zDl (k + 1) l
theorem zCv : ∀ (ws : List Win) (k : Nat) (p : Nat × AObj), p ∈ zDl k ws → ∃ x, k ≤ p.1 ∧ ws[p.1 - k]? = some x ∧ p.2 = .win x.c x.z
 | x :: l, k, p, h => by
  rcases List.mem_cons.1 h with e | e
  ·subst e; exact ⟨x, Nat.le_refl _, by simp, rfl⟩
  ·obtain ⟨y, h1, h2, h3⟩ := zCv l (k + 1) p e
   exact ⟨y, by omega, by rw [show p.1 - k = (p.1 - (k + 1)) + 1 by omega]; simpa using h2, h3⟩
theorem zIs {d : Nat} {bs : List (Nat × AObj)} {k : Nat} {o : AObj} (h : (heap d bs).get k = some o) : (k, o) ∈ bs := by
 unfold heap at h
 rw [zGh] at h
 split at h
 ·rw [Nat.zero_add, Nat.one_mul] at h
  rcases zJu k none bs with ⟨v, h1, h2⟩ | h2
  ·rw [h2] at h; cases h; exact h1
  ·rw [h2] at h; cases h
 ·cases h
def Win.ok (w : World) (x : Win) : Prop := x.b < w.heap.size ∧ WinAt w x.b x.off x.c ∧ plainL x.c = true
theorem hr_wins {P : Program} {w : World} {ws : List Win} {d : Nat} (hw : ∀ x ∈ ws, x.ok w) : HR P (Env.wins ws) (heap d (zDl 0 ws)).get w := by
 have gd : ∀ k x, ws[k]? = some x → ws.getD k default = x := fun k x h => by rw [List.getD_eq_getElem?_getD, h]; rfl
 refine ⟨fun k hk => ?_, fun k hk => ?_, fun k o ho => ?_, fun i j hi hj hro _ => ?_, fun k o ho _ => ?_⟩
 ·have hk : k < ws.length := hk
  show (ws.getD k default).b < _
  rw [gd k _ (List.getElem?_eq_getElem hk)]
  exact (hw _ (List.getElem_mem hk)).1
 ·cases hg : (heap d (zDl 0 ws)).get k with
  | none => rfl
  | some o =>
   obtain ⟨x, _, h2, _⟩ := zCv ws 0 _ (zIs hg)
   exact absurd (List.getElem?_eq_some_iff.1 h2).1 (fun h => hk h)
 ·obtain ⟨x, _, h2, h3⟩ := zCv ws 0 _ (zIs ho)
  simp only [Nat.sub_zero] at h2 h3
  subst h3
  have e := gd k x h2
  obtain ⟨_, h4, h5⟩ := hw x (List.mem_of_getElem? h2)
  refine ⟨by show (ws.getD k default).z = _; rw [e], x.c, rfl, zCe h5, fun j v hj => ?_⟩
  show w.cell? ⟨(ws.getD k default).b, (ws.getD k default).off + j, none⟩ = _
  rw [e]; exact h4 j v hj
 ·have live : ∀ i, (heap d (zDl 0 ws)).get i ≠ none → i < ws.length := fun i hi => by
   cases hg : (heap d (zDl 0 ws)).get i with
   | none => exact absurd hg hi
   | some o =>
    obtain ⟨x, _, h2, _⟩ := zCv ws 0 _ (zIs hg)
    exact (List.getElem?_eq_some_iff.1 h2).1
  rcases hro with h | h
  ·exact absurd (live i hi) h
  ·exact absurd (live j hj) h
 ·obtain ⟨x, _, _, h3⟩ := zCv ws 0 _ (zIs ho)
  have h3 : o = .win x.c x.z := h3
  subst h3; trivial
theorem calls_of_wins {P : Program} {f : FuncId} {args : List Value} {ws : List Win} {d m : Nat} {H : Tr AObj} {wr : List Nat} (hF : FnS P 0 f args (heap d (zDl 0 ws)) ws.length (.ret (.bool true) H m wr)) (hwr : ∀ k ∈ wr, ws.length ≤ k)
  {w : World} (hw : ∀ x ∈ ws, x.ok w) {args' : Array Value} (ha : VL (Env.wins ws) args args'.toList) : Calls P f args' w fun e w' => e = .returned (.bool true) ∧ Below w.heap.size w w' := by
 have h0 := hr_wins (P := P) (d := d) hw
 refine callsIn_wide.1 ((hF (Env.wins ws) w args' (fun g h => by omega) ha h0 (fun k hk => ?_) (fun k hk => .inl hk)).mono ?_)
 ·cases hg : (heap d (zDl 0 ws)).get k with
  | none => rfl
  | some o => have := h0.live (id := k) (by rw [hg]; simp); have this : k < ws.length := this; have hk : ws.length ≤ k := hk; omega
 ·rintro e w' ⟨E', v', rfl, hv, _, hke⟩
  cases hv
  refine ⟨rfl, hke.os, hke.tp, hke.output, hke.size, fun b hb => hke.block b hb fun i hi _ => ?_⟩
  have hlt : i < ws.length := hi.1
  have := hwr i (hi.2.2 hlt).1
  omega
section
variable {H : Type} {enc : TypeId × Value → H} {P : Program} {w : World} {base : Nat} {spare : Nat → Bool} {held : Bool}
theorem zVb {r : Reach} {b0 : Nat} {t e : TypeId} {a : Addr} {len cap : Nat} (ht : P.underlying t = some (.slice e)) (h : Cell.okWide P w r b0 t (.slice (some a) len cap)) : a.spot = none ∧ a.block < w.heap.size := by
 simp only [Cell.okWide, ht, Cell.ok] at h
 obtain ⟨_, h1, row, cells, h2, _⟩ := h.2.2
 refine ⟨h1, ?_⟩
 unfold World.shape? at h2
 rcases Nat.lt_or_ge a.block w.heap.size with hl | hl
 ·exact hl
 ·rw [Array.getElem?_eq_none hl] at h2; cases h2
theorem zJx {r : Reach} {b0 : Nat} {t e : TypeId} {v : Value} (ht : P.underlying t = some (.slice e)) (h : Value.okWide P w r b0 t v) : Cell.okWide P w r b0 t v := by
 simp only [Value.okWide, ht] at h; exact h
theorem zUa {α : Type} (L : Lay α) {r : Reach} {b0 : Nat} {t e : TypeId} {v : Value} {fuel : Nat} {x : DataW H × List MemPlace} (ht : P.underlying t = some (.slice e)) (hC : P.cellsOf e = L.k)
  (hopen : ∀ n cs y, DataW.trod enc P w base spare held n e cs = some y → ∃ x, cs = L.g x) (hv : Cell.okWide P w r b0 t v) (h : DataW.trod enc P w base spare held fuel t [v] = some x) (hpos : 0 < w.heap.size) :
  ∃ (l : List α) (c b off : Nat), b < w.heap.size ∧ WinAt w b off (l.flatMap L.g) ∧ l.length ≤ c ∧ c ≤ maxLen ∧ ∀ (E : Env) (k : Nat), E.dom k → E.ρ k = b → E.sh k = off → VR E (.slice (some ⟨k, 0, none⟩) l.length c) v := by
 rcases open_slice ht h with ⟨h0, _⟩ | ⟨a, len, cap, m, n, D, Pl, hcs, hb, hl, hm, hmm, hx, hi⟩
 ·simp only [List.cons.injEq, and_true] at h0
  subst h0
  exact ⟨[], 0, 0, 0, hpos, fun j v hj => by simp at hj, Nat.le_refl _, Nat.zero_le _, fun E k hd _ _ => .se k 0 0 none hd (fun _ => rfl) (.inr rfl)⟩
 ·simp only [List.cons.injEq, and_true] at hcs
  subst hcs
  obtain ⟨hs, hbl⟩ := zVb ht hv
  obtain ⟨ab, ao, asp⟩ := a
  simp only at hs hbl hb
  subst hs
  have hlm : len ≤ m := by rw [hmm]; split <;> omega
  have hel : ∀ i, i < len → ∃ y : α, ∀ j v, (L.g y)[j]? = some v → w.cell? ⟨ab, ao + i * L.k + j, none⟩ = some v := fun i hi' => by
   obtain ⟨cs', h1, h2⟩ := hi i (by omega)
   obtain ⟨y, rfl⟩ := hopen _ _ _ h2
   obtain ⟨_, hcl, hat⟩ := World.cells?_some h1
   refine ⟨y, fun j v hj => ?_⟩
   have hjl : j < L.k := by have := (List.getElem?_eq_some_iff.1 hj).1; rw [L.len] at this; exact this
   have := hat j (by rw [hC]; exact hjl)
   rw [hj] at this
   rw [← this, hC]
   congr 1
   rw [zBo, zBo]
  have build : ∀ n, n ≤ len → ∃ l : List α, l.length = n ∧ ∀ i (hi : i < l.length) j v, (L.g l[i])[j]? = some v → w.cell? ⟨ab, ao + i * L.k + j, none⟩ = some v := by
   intro n
   induction n with
   | zero => intro _; exact ⟨[], rfl, fun i hi => by simp at hi⟩
   | succ n ih =>
    intro hn
    obtain ⟨l, hll, h1⟩ := ih (by omega)
    obtain ⟨y, hy⟩ := hel n (by omega)
    refine ⟨l ++ [y], by simp [hll], fun i hi' j v hj => ?_⟩
    by_cases hin : i < l.length
    ·rw [List.getElem_append_left hin] at hj; exact h1 i hin j v hj
    ·have hin : i = n := by simp at hi'; omega
     subst hin
     rw [List.getElem_append_right (by omega)] at hj
     simp at hj
     exact hy j v hj
  obtain ⟨l, hll, h1⟩ := build len (Nat.le_refl _)
  have hcap : cap ≠ U := by
   have : maxLen = 9223372036854775807 := by decide
   have : U = 1180591620717411303424 := rfl
   omega
  refine ⟨l, cap, ab, ao, hbl, fun j v hj => ?_, by omega, hm, fun E k hd h2 h3 => ?_⟩
  ·have hpos' := L.pos
   have hjl : j < l.length * L.k := by have := (List.getElem?_eq_some_iff.1 hj).1; rw [zAr L.g L.k L.len] at this; exact this
   have hi' : j / L.k < l.length := Nat.div_lt_of_lt_mul (by rw [Nat.mul_comm]; exact hjl)
   have hr : j % L.k < L.k := Nat.mod_lt _ hpos'
   have hj2 : j = j / L.k * L.k + j % L.k := by have := Nat.div_add_mod j L.k; rw [Nat.mul_comm] at this; exact this.symm
   obtain ⟨q1, q2⟩ := zEx L.g L.k L.len l (j / L.k) hi'
   have : (L.g l[j / L.k])[j % L.k]? = some v := by
    rw [← q2, List.getElem?_take_of_lt hr, List.getElem?_drop, ← hj2]; exact hj
   have := h1 _ hi' _ v this
   rw [Nat.add_assoc, ← hj2] at this
   exact this
  ·rw [hll]
   have := VR.sl (E := E) k 0 len cap hd hcap
   rw [h2, h3] at this
   exact this
end
def layB (t : TypeId) : Lay UInt8 where
 g b := [.int .u8 (b.toNat : Int)]
 k := 1
 t := t
 len _ := rfl
 pos := Nat.one_pos
 plain _ := rfl
 inj x y h := by
  simp only [List.cons.injEq, Value.int.injEq, true_and, and_true] at h
  exact UInt8.toNat_inj.1 (by omega)
theorem layB_flat (t : TypeId) (l : List UInt8) : l.flatMap (layB t).g = l.map fun b => .int .u8 (b.toNat : Int) := by
 induction l with
 | nil => rfl
 | cons b l ih => rw [List.flatMap_cons, ih]; rfl
theorem byte_of {n : Int} (h : (Lit.int .u8 n).wf = true) : ∃ b : UInt8, n = (b.toNat : Int) := by
 simp only [Lit.wf, Bool.and_eq_true, decide_eq_true_eq] at h
 have h1 : IntKind.u8.min = 0 := by decide
 have h2 : IntKind.u8.max = 255 := by decide
 rw [h1, h2] at h
 refine ⟨UInt8.ofNat n.toNat, ?_⟩
 simp; omega
section
variable {H : Type} {enc : TypeId × Value → H} {P : Program} {w : World} {base : Nat} {spare : Nat → Bool} {held : Bool}
theorem zFu {r : Reach} {b0 : Nat} {t e : TypeId} {v : Value} {d : DataW H} {p : List MemPlace} (ht : P.underlying t = some (.slice e)) (hv : Value.okWide P w r b0 t v) (h : DataW.Trod enc P w base spare held t v d p) : ∃ n, DataW.trod enc P w base spare held n t [v] = some (d, p) := by
 obtain ⟨a, l, c, rfl⟩ := okWide_slice ht hv
 obtain ⟨n, h⟩ := h
 exact ⟨n, h⟩
theorem open_bytes {r : Reach} {b0 : Nat} {t e : TypeId} {v : Value} {d : DataW H} {p : List MemPlace} (ht : P.underlying t = some (.slice e)) (he : P.underlying e = some (.int .u8)) (hC : P.cellsOf e = 1) (hv : Value.okWide P w r b0 t v) (h : DataW.Trod enc P w base spare held t v d p) (hpos : 0 < w.heap.size) :
  ∃ (l : List UInt8) (c b off : Nat), b < w.heap.size ∧ WinAt w b off (l.map fun b => .int .u8 (b.toNat : Int)) ∧ l.length ≤ c ∧ c ≤ maxLen ∧ ∀ (E : Env) (k : Nat), E.dom k → E.ρ k = b → E.sh k = off → VR E (.slice (some ⟨k, 0, none⟩) l.length c) v := by
 obtain ⟨n, h⟩ := zFu ht hv h
 have := zUa (layB e) ht hC (fun n cs y hy => by
  obtain ⟨x, rfl, _, hw⟩ := DataW.trod_int he hy
  obtain ⟨b, rfl⟩ := byte_of hw
  exact ⟨b, rfl⟩) (zJx ht hv) h hpos
 simpa only [layB_flat] using this
end
theorem pos_of_shaped {P : Program} {W : World} (h : W.ShapedOpen P) (hk : Nat.blt P.globals.size (begin P (fun _ _ => 0) default).world.heap.size = true) : 0 < W.heap.size := by
 obtain ⟨o, _, h1, _⟩ := h.2 P.globals.size (Nat.le_refl _) (Nat.le_of_ble_eq_true hk)
 have := (Array.getElem?_eq_some_iff.1 h1).1
 omega
end Go.Proofs.Ytmpaeabkdhjamaa
namespace Go.Proofs.Ytmpaeabkdhjamaa
open Go Go.Joins Go.ChangeShapes Go.WideShapes Go.RowKit Go.Deep
def flatOK (P : Program) : Nat → TypeId → List TypeId → Bool
 | 0, _, _ => false
 | n + 1, t, ts => match P.underlying t with
  | some (.struct fs) => Nat.beq ts.length (P.cellsOf t) && (fs.toList.all fun f => flatOK P n f.type ((ts.drop f.offset).take (P.cellsOf f.type))) && ((List.range ts.length).all fun i => fs.toList.any fun f => Nat.ble f.offset i && Nat.blt i (f.offset + P.cellsOf f.type))
  | _ => match ts with
   | [u] => Nat.beq u t
   | _ => false
section
variable {H : Type} {enc : TypeId × Value → H} {P : Program} {w : World} {base : Nat} {spare : Nat → Bool} {held : Bool}
theorem zPh : ∀ (n : Nat) (t : TypeId) (ts : List TypeId) (m : Nat) (cs : List Value) (x : DataW H × List MemPlace), flatOK P n t ts = true → DataW.trod enc P w base spare held m t cs = some x → cs.length = ts.length → ∀ (i : Nat) (u : TypeId) (v : Value), ts[i]? = some u → cs[i]? = some v → ∃ k y, DataW.trod enc P w base spare held k u [v] = some y
 | 0, _, _, _, _, _, h, _, _, _, _, _, _, _ => by cases h
 | n + 1, t, ts, m, cs, x, h, hx, hlen, i, u, v, hu, hv => by
  unfold flatOK at h
  split at h
  ·rename_i fs hs
   simp only [Bool.and_eq_true] at h
   obtain ⟨⟨h1, h2⟩, h3⟩ := h
   obtain ⟨xs, n', _, _, hl, hxl, hf⟩ := DataW.trod_struct hs hx
   have hi : i < ts.length := (List.getElem?_eq_some_iff.1 hu).1
   have h3 := List.all_eq_true.1 h3 i (List.mem_range.2 hi)
   obtain ⟨f, hfm, h4⟩ := List.any_eq_true.1 h3
   simp only [Bool.and_eq_true] at h4
   have ha := Nat.le_of_ble_eq_true h4.1
   have hb : i < f.offset + P.cellsOf f.type := Nat.le_of_ble_eq_true h4.2
   obtain ⟨j, hj⟩ := List.getElem?_of_mem hfm
   have hj' : fs[j]? = some f := by rw [← Array.getElem?_toList]; exact hj
   have hjl : j < xs.length := by rw [hxl]; exact (Array.getElem?_eq_some_iff.1 hj').1
   have hg := hf j f hj'
   rw [List.getElem?_eq_getElem hjl] at hg
   have hk := List.all_eq_true.1 h2 f hfm
   refine zPh n f.type _ n' _ _ hk hg ?_ (i - f.offset) u v ?_ ?_
   ·simp only [List.length_take, List.length_drop, hlen]
   ·rw [List.getElem?_take_of_lt (by omega), List.getElem?_drop, show f.offset + (i - f.offset) = i by omega]; exact hu
   ·rw [List.getElem?_take_of_lt (by omega), List.getElem?_drop, show f.offset + (i - f.offset) = i by omega]; exact hv
  ·split at h
   ·rename_i u'
    have := Nat.eq_of_beq_eq_true h
    subst this
    have hc : cs.length = 1 := hlen
    match cs, hc with
    | [c], _ =>
     cases i with
     | zero =>
      simp only [List.getElem?_cons_zero, Option.some.injEq] at hu hv
      subst hu; subst hv
      exact ⟨m, x, hx⟩
     | succ i => simp at hu
   ·cases h
structure WinL (α : Type) where
 l : List α
 c : Nat
 b : Nat
 off : Nat
def WinL.good {α : Type} (L : Lay α) (w : World) (x : WinL α) : Prop := x.b < w.heap.size ∧ WinAt w x.b x.off (x.l.flatMap L.g) ∧ x.l.length ≤ x.c ∧ x.c ≤ maxLen
def WinL.rd {α : Type} (x : WinL α) (k : Nat) : RdL α := ⟨k, x.c, [], x.l, []⟩
def WinL.sl {α : Type} (x : WinL α) (k : Nat) : Value := (x.rd k).sl
def WinL.win {α : Type} (L : Lay α) (x : WinL α) : Win := ⟨x.b, x.off, (x.rd 0).cells L, L.k⟩
theorem WinL.cells {α : Type} (L : Lay α) (x : WinL α) (k : Nat) : (x.rd k).cells L = x.l.flatMap L.g := by show [] ++ x.l.flatMap L.g ++ [] = _; rw [List.append_nil, List.nil_append]
theorem WinL.good.ok {α : Type} {L : Lay α} {w : World} {x : WinL α} (h : x.good L w) : (x.win L).ok w := ⟨h.1, by show WinAt w x.b x.off ((x.rd 0).cells L); rw [WinL.cells]; exact h.2.1, by show plainL ((x.rd 0).cells L) = true; rw [WinL.cells]; exact zAb L.g L.plain _⟩
theorem open_winl {α : Type} (L : Lay α) {r : Reach} {b0 : Nat} {t e : TypeId} {v : Value} {fuel : Nat} {x : DataW H × List MemPlace} (ht : P.underlying t = some (.slice e)) (hC : P.cellsOf e = L.k)
  (hopen : ∀ n cs y, DataW.trod enc P w base spare held n e cs = some y → ∃ x, cs = L.g x) (hv : Cell.okWide P w r b0 t v) (h : DataW.trod enc P w base spare held fuel t [v] = some x) (hpos : 0 < w.heap.size) :
  ∃ y : WinL α, y.good L w ∧ ∀ (E : Env) (k : Nat), E.dom k → E.ρ k = y.b → E.sh k = y.off → VR E (y.sl k) v := by
 obtain ⟨l, c, b, off, h1, h2, h3, h4, h5⟩ := zUa L ht hC hopen hv h hpos
 exact ⟨⟨l, c, b, off⟩, ⟨h1, h2, h3, h4⟩, h5⟩
end
end Go.Proofs.Ytmpaeabkdhjamaa
