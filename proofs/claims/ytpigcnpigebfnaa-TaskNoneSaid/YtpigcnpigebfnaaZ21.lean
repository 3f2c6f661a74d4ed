/- DERIVED. Texts put together: A6, Ta0, Ta5, Ta1, Ta6, Ta7, Nv1, Nv2. -/
import Derived.SizedLaws
import Derived.Test.YtpigcnpigebfnaaZ12
import Derived.Test.YtpigcnpigebfnaaZ13
import Derived.Test.YtpigcnpigebfnaaZ19
import Derived.Test.YtpigcnpigebfnaaZ20
set_option maxRecDepth 1000000
set_option maxHeartbeats 32000000
namespace Go.Proofs.Ytpigcnpigebfnaa
open Go Go.Joins Go.ChangeShapes Go.WideShapes Go.RowKit Go.Deep
section
variable {H : Type} {enc : TypeId × Value → H} {P : Program} {w : World} {base : Nat} {spare : Nat → Bool} {held : Bool}
theorem zEr : ∀ (n : Nat) (t : TypeId) (ts : List TypeId) (m : Nat) (cs : List Value) (x : DataW H × List MemPlace), flatOK P n t ts = true → DataW.trod enc P w base spare held m t cs = some x → cs.length = ts.length → ∀ (i : Nat) (u : TypeId) (v : Value), ts[i]? = some u → cs[i]? = some v → ∃ k y, DataW.trod enc P w base spare held k u [v] = some y ∧ ∀ n ∈ y.1.weights P u, n ∈ x.1.weights P t
 | 0, _, _, _, _, _, h, _, _, _, _, _, _, _ => by cases h
 | n + 1, t, ts, m, cs, x, h, hx, hlen, i, u, v, hu, hv => by
  unfold flatOK at h
  split at h
  ·rename_i fs hs
   simp only [Bool.and_eq_true] at h
   obtain ⟨⟨h1, h2⟩, h3⟩ := h
   obtain ⟨xs, n', _, hxe, hl, hxl, hf⟩ := DataW.trod_struct hs hx
   have hi : i < ts.length := (List.getElem?_eq_some_iff.1 hu).1
   have h3 := List.all_eq_true.1 h3 i (List.mem_range.2 hi)
   obtain ⟨f, hfm, h4⟩ := List.any_eq_true.1 h3
   simp only [Bool.and_eq_true] at h4
   have ha := Nat.le_of_ble_eq_true h4.1
   have hb : i < f.offset + P.cellsOf f.type := Nat.le_of_ble_eq_true h4.2
   obtain ⟨j, hj⟩ := List.getElem?_of_mem hfm
   have hj' : fs[j]? = some f := by rw [← Array.getElem?_toList]; exact hj
   have hjl : j < xs.length := by rw [hxl]; exact (Array.getElem?_eq_some_iff.1 hj').1
   have hg := hf j f hj'
   rw [List.getElem?_eq_getElem hjl] at hg
   have hk := List.all_eq_true.1 h2 f hfm
   obtain ⟨k, y, r1, r2⟩ := zEr n f.type _ n' _ _ hk hg (by simp only [List.length_take, List.length_drop, hlen]) (i - f.offset) u v
    (by rw [List.getElem?_take_of_lt (by omega), List.getElem?_drop, show f.offset + (i - f.offset) = i by omega]; exact hu)
    (by rw [List.getElem?_take_of_lt (by omega), List.getElem?_drop, show f.offset + (i - f.offset) = i by omega]; exact hv)
   refine ⟨k, y, r1, fun q hq => ?_⟩
   rw [hxe]
   show q ∈ DataW.weights P t (.agg (xs.map (·.1)))
   unfold DataW.weights
   simp only [hs]
   exact DataW.weights_mem_each (j := j) (t := f.type) (d := (xs[j]'hjl).1) (by rw [List.getElem?_map, hj]; rfl) (by rw [List.getElem?_map, List.getElem?_eq_getElem hjl]; rfl) q (r2 q hq)
  ·split at h
   ·rename_i u'
    have := Nat.eq_of_beq_eq_true h
    subst this
    have hc : cs.length = 1 := hlen
    match cs, hc with
    | [c], _ =>
     cases i with
     | zero =>
      simp only [List.getElem?_cons_zero, Option.some.injEq] at hu hv
      subst hu; subst hv
      exact ⟨m, x, hx, fun q hq => hq⟩
     | succ i => simp at hu
   ·cases h
theorem zOa {r : Reach} {b0 : Nat} {t : TypeId} {fs : Array Field} {ts : List TypeId} {v : Value} {d : DataW H} {p : List MemPlace} (hs : P.underlying t = some (.struct fs)) (ht : flatOK P 8 t ts = true) (hC : P.cellsOf t = ts.length) (hct : P.cellTypes P.depth t = some ts)
  (hv : Value.okWide P w r b0 t v) (h : DataW.Trod enc P w base spare held t v d p) :
  ∃ cs : List Value, v = .agg ⟨cs⟩ ∧ cs.length = ts.length ∧ ∀ (i : Nat) (u : TypeId) (c : Value), ts[i]? = some u → cs[i]? = some c → Cell.okWide P w r b0 u c ∧ ∃ k y, DataW.trod enc P w base spare held k u [c] = some y ∧ ∀ n ∈ y.1.weights P u, n ∈ d.weights P t := by
 simp only [Value.okWide, hs] at hv
 obtain ⟨⟨cs⟩, rfl, hsz, ts', h1, _, h2⟩ := hv
 rw [hct] at h1
 cases h1
 obtain ⟨fuel, hf⟩ := h
 have hl : cs.length = ts.length := by rw [← hC]; exact hsz
 refine ⟨cs, rfl, hl, fun i u c hu hc => ⟨?_, ?_⟩⟩
 ·have hi : i < ts.length := (List.getElem?_eq_some_iff.1 hu).1
  obtain ⟨u', h3, h4⟩ := h2 i c (by simpa using hc)
  rw [Nat.mod_eq_of_lt hi, hu] at h3
  cases h3
  exact h4
 ·exact zEr 8 t ts fuel cs _ ht hf hl i u c hu hc
end
section
variable {H : Type} {enc : TypeId × Value → H} {w : World} {base : Nat} {spare : Nat → Bool} {held : Bool}
theorem weigh {ts : List TypeId} {ds : List (DataW H)} (h : (DataW.weightsEach Try.prog ts ds).all (· ≤ reachBytes) = true) {j : Nat} {t : TypeId} {d : DataW H} (ht : ts[j]? = some t) (hd : ds[j]? = some d) : ∀ n ∈ d.weights Try.prog t, n ≤ reachBytes := fun n hn => by
 have := List.all_eq_true.1 h n (DataW.weights_mem_each ht hd n hn)
 exact of_decide_eq_true this
end
end Go.Proofs.Ytpigcnpigebfnaa
namespace Go.Proofs.Ytpigcnpigebfnaa
open Go Go.Joins Go.ChangeShapes Go.WideShapes Go.RowKit Go.Deep
end Go.Proofs.Ytpigcnpigebfnaa
namespace Go.Proofs.Ytpigcnpigebfnaa
open Go Go.Joins Go.ChangeShapes Go.WideShapes Go.RowKit Go.Deep
theorem zHc {H : Type} {P : Program} {e : TypeId} {d : DataW H} {q : Nat} (hq : q ∈ d.weights P e) : ∀ {l : List (DataW H)}, d ∈ l → q ∈ DataW.weightsAll P e l
 | x :: l, h => by
  unfold DataW.weightsAll
  rcases List.mem_cons.1 h with rfl | h
  ·exact List.mem_append_left _ hq
  ·exact List.mem_append_right _ (zHc hq h)
section
variable {P : Program} {H : Type} {enc : TypeId × Value → H} {w : World} {base : Nat} {spare : Nat → Bool} {held : Bool}
theorem fzc_cell {b o : Nat} {v : Value} (h : w.cell? ⟨b, o, none⟩ = some v) : fzc (fun b => w.heap[b]?) b o = some v := by
 unfold World.cell? at h
 unfold fzc
 exact h
def CellsD (w : World) (us cs : List Value) : Prop := ∀ (j : Nat) (u : Value), us[j]? = some u → ∃ c, cs[j]? = some c ∧ DV (fun b => w.heap[b]?) u c
theorem zHx {α : Type} (g : α → List Value) (z : Nat) (hz : ∀ x, (g x).length = z) (hz0 : 0 < z) {t e : TypeId} {v : Value} {fuel R : Nat} {x : DataW H × List MemPlace} (Q : α → Prop) (ht : P.underlying t = some (.slice e)) (hC : P.cellsOf e = z)
  (hopen : ∀ n cs y, DataW.trod enc P w base spare held n e cs = some y → (∀ q ∈ y.1.weights P e, q ≤ R) → ∃ x : α, Q x ∧ CellsD w (g x) cs)
  (h : DataW.trod enc P w base spare held fuel t [v] = some x) (hw : ∀ n ∈ x.1.weights P t, n ≤ R) :
  ∃ l : List α, (∀ x ∈ l, Q x) ∧ l.length * P.bytesOf e ≤ R ∧ DV (fun b => w.heap[b]?) (treeV z l.length (l.flatMap g)) v := by
 rcases open_slice ht h with ⟨h0, _⟩ | ⟨a, len, cap, m, n, D, Pl, hcs, _, hl, hcm, hm, hx, hel⟩
 ·simp only [List.cons.injEq, and_true] at h0
  subst h0
  exact ⟨[], (fun x hx => by cases hx), (by simp), .tree z 0 0 0 0 [] none (fun _ => undef) (by simp) (Nat.le_refl _) (Nat.zero_le _) (.inr ⟨rfl, fun _ => rfl⟩) (fun j hj => by simp at hj) (fun j v hj => by simp at hj)⟩
 ·simp only [List.cons.injEq, and_true] at hcs
  subst hcs
  have hlm : len ≤ m := by rw [hm]; split <;> omega
  have hel2 : ∀ i, i < len → ∃ y : α, Q y ∧ ∀ (j : Nat) (u : Value), (g y)[j]? = some u → ∃ c, w.cell? ((a.add (i * z)).add j) = some c ∧ DV (fun b => w.heap[b]?) u c := fun i hi => by
   obtain ⟨cs', q1, q2⟩ := hel i (by omega)
   obtain ⟨y, hQ, hD⟩ := hopen _ _ _ q2 fun q hq => hw q (by
    rw [hx]
    show q ∈ DataW.weights P t (.slice _ _)
    unfold DataW.weights
    simp only [ht]
    exact List.mem_cons_of_mem _ (List.mem_append_left _ (zHc hq (List.mem_map.2 ⟨i, List.mem_range.2 (by omega), rfl⟩))))
   obtain ⟨_, hcl, hat⟩ := World.cells?_some q1
   refine ⟨y, hQ, fun j u hj => ?_⟩
   obtain ⟨c, h1, h2⟩ := hD j u hj
   have hjl : j < z := by have := (List.getElem?_eq_some_iff.1 hj).1; rw [hz] at this; exact this
   have := hat j (by rw [hC]; exact hjl)
   rw [h1, hC] at this
   exact ⟨c, this, h2⟩
  have build : ∀ k, k ≤ len → ∃ l : List α, l.length = k ∧ ∀ i (hi : i < l.length), Q l[i] ∧ ∀ (j : Nat) (u : Value), (g l[i])[j]? = some u → ∃ c, w.cell? ((a.add (i * z)).add j) = some c ∧ DV (fun b => w.heap[b]?) u c := by
   intro k
   induction k with
   | zero => intro _; exact ⟨[], rfl, fun i hi => by simp at hi⟩
   | succ k ih =>
    intro hk
    obtain ⟨l, hll, h1⟩ := ih (by omega)
    obtain ⟨y, hy⟩ := hel2 k (by omega)
    refine ⟨l ++ [y], by simp [hll], fun i hi' => ?_⟩
    by_cases hin : i < l.length
    ·rw [List.getElem_append_left hin]; exact h1 i hin
    ·have hin : i = k := by simp at hi'; omega
     subst hin
     rw [List.getElem_append_right (by omega)]
     simpa using hy
  obtain ⟨l, hll, h1⟩ := build len (Nat.le_refl _)
  have hq := hw ((len + (m - len)) * P.bytesOf e) (by
   rw [hx]
   show _ ∈ DataW.weights P t (.slice _ _)
   unfold DataW.weights
   simp only [ht, List.length_map, List.length_range]
   exact List.mem_cons_self ..)
  refine ⟨l, fun x hx => ?_, Nat.le_trans (Nat.mul_le_mul_right _ (by omega)) hq, ?_⟩
  ·obtain ⟨i, hi, rfl⟩ := List.getElem_of_mem hx
   exact (h1 i hi).1
  ·have hfl := zAy g z hz l
   rw [hll]
   by_cases hl0 : len = 0
   ·subst hl0
    have : l = [] := List.eq_nil_of_length_eq_zero hll
    subst this
    exact .tree z 0 cap 0 0 [] _ (fun _ => undef) (by simp) (Nat.zero_le _) hcm (.inr ⟨rfl, fun e => by cases e⟩) (fun j hj => by simp at hj) (fun j v hj => by simp at hj)
   ·obtain ⟨ab, ao, asp⟩ := a
    have hsp : asp = none := by
     obtain ⟨_, h2⟩ := h1 0 (by omega)
     have hg0 : 0 < (g (l[0]'(by omega))).length := by rw [hz]; exact hz0
     obtain ⟨c, h3, _⟩ := h2 0 _ (List.getElem?_eq_getElem hg0)
     rw [Nat.zero_mul] at h3
     have h3 : w.cell? ⟨ab, ao, asp⟩ = some c := h3
     unfold World.cell? at h3
     cases hh : w.heap[ab]? with
     | none => simp [hh] at h3
     | some ob =>
      cases ob with
      | cells arr e2 fr =>
       simp only [hh] at h3
       cases asp with
       | none => rfl
       | some s => simp at h3
      | _ => simp [hh] at h3
    subst hsp
    refine .tree z len cap ab ao _ _ (fun j => (w.cell? ⟨ab, ao + j, none⟩).getD undef) (by rw [hfl, hll]) hl hcm (.inl rfl) (fun j hj => ?_) (fun j u hj => ?_)
    all_goals
     have hjl : j < len * z := by first | (rw [hfl, hll] at hj; exact hj) | (have := (List.getElem?_eq_some_iff.1 hj).1; rw [hfl, hll] at this; exact this)
     have hi : j / z < l.length := by rw [hll]; exact Nat.div_lt_of_lt_mul (by rw [Nat.mul_comm]; exact hjl)
     have hr : j % z < z := Nat.mod_lt _ hz0
     have hj2 : j / z * z + j % z = j := by rw [Nat.mul_comm]; exact Nat.div_add_mod j z
     obtain ⟨_, p2⟩ := zLm g z hz l (j / z) hi
     have hgl : j % z < (g l[j / z]).length := by rw [hz]; exact hr
     have e1 : (l.flatMap g)[j]? = some (g l[j / z])[j % z] := by
      rw [← List.getElem?_eq_getElem hgl, ← p2, List.getElem?_take_of_lt hr, List.getElem?_drop, hj2]
     obtain ⟨c, h3, h4⟩ := (h1 (j / z) hi).2 (j % z) _ (List.getElem?_eq_getElem hgl)
     rw [zAf, zAf] at h3
     have h3 : w.cell? ⟨ab, ao + j / z * z + j % z, none⟩ = some c := h3
     rw [Nat.add_assoc, hj2] at h3
    ·rw [h3, Option.getD_some]; exact fzc_cell h3
    ·rw [h3, Option.getD_some]
     rw [e1] at hj
     cases hj
     exact h4
end
end Go.Proofs.Ytpigcnpigebfnaa
namespace Go.Proofs.Ytpigcnpigebfnaa
open Go Go.Joins Go.ChangeShapes Go.WideShapes Go.RowKit Go.Deep
section
variable {H : Type} {enc : TypeId × Value → H} {w : World} {base : Nat} {spare : Nat → Bool} {held : Bool}
end
end Go.Proofs.Ytpigcnpigebfnaa
namespace Go.Proofs.Ytpigcnpigebfnaa
open Go Go.Joins Go.ChangeShapes Go.WideShapes Go.RowKit Go.Deep
section
variable {H : Type} {enc : TypeId × Value → H} {w : World} {base : Nat} {spare : Nat → Bool} {held : Bool}
theorem zFd {n : Nat} {c : Value} {y : DataW H × List MemPlace} {R : Nat} (h : DataW.trod enc Try.prog w base spare held n 9 [c] = some y) (hw : ∀ q ∈ y.1.weights Try.prog 9, q ≤ R) : ∃ x : ByteArray, c = .string x ∧ x.size ≤ R := by
 obtain ⟨a, e, rfl, _⟩ := DataW.trod_string Try.underlying9 h
 simp only [List.cons.injEq, and_true] at e
 refine ⟨a, e, hw a.size ?_⟩
 show a.size ∈ DataW.weights Try.prog 9 (.lit (.string a.data.toList))
 unfold DataW.weights
 rw [Array.length_toList]
 exact List.mem_singleton.2 rfl
theorem zHq : CellsD w [] [] := fun j u h => by simp at h
theorem zBd {u c : Value} {us cs : List Value} (h : DV (fun b => w.heap[b]?) u c) (k : CellsD w us cs) : CellsD w (u :: us) (c :: cs) := fun j v hj => by
 cases j with
 | zero => simp at hj; subst hj; exact ⟨c, rfl, h⟩
 | succ j => simp at hj ⊢; exact k j v hj
theorem bytes_sD : Try.prog.bytesOf 9 = 16 := by kernel_rfl
theorem bytes_tD : Try.prog.bytesOf 34 = 64 := by kernel_rfl
theorem zDn {fuel : Nat} {v : Value} {x : DataW H × List MemPlace} (h : DataW.trod enc Try.prog w base spare held fuel 32 [v] = some x) (hw : ∀ n ∈ x.1.weights Try.prog 32, n ≤ reachBytes) :
  ∃ l : List ByteArray, (∀ s ∈ l, s.size ≤ reachBytes) ∧ l.length * 16 ≤ reachBytes ∧ DV (fun b => w.heap[b]?) (trS l) v := by
 have := zHx layS.g 1 layS.len (by decide) (fun s : ByteArray => s.size ≤ reachBytes) Try.underlying32 (by kernel_rfl) (fun n cs y hy hw => by
  obtain ⟨a, e, _, _⟩ := DataW.trod_string Try.underlying9 hy
  subst e
  obtain ⟨s, e, hs⟩ := zFd hy hw
  cases e
  exact ⟨_, hs, zBd (.plain _ rfl) zHq⟩) h hw
 rw [bytes_sD] at this
 exact this
def zKn : List TypeId := [9, 3, 3, 3, 32]
theorem zOg {n : Nat} {cs : List Value} {y : DataW H × List MemPlace} (h : DataW.trod enc Try.prog w base spare held n 34 cs = some y) (hw : ∀ q ∈ y.1.weights Try.prog 34, q ≤ reachBytes) : ∃ x : SetX, x.fit ∧ CellsD w (gS x) cs := by
 obtain ⟨_, _, _, _, hl, _⟩ := DataW.trod_struct Try.underlying34 h
 have hl : cs.length = 5 := hl.trans (by kernel_rfl)
 have hf := zEr 8 34 zKn n cs y (by kernel_rfl) h hl
 have hf : ∀ (i : Nat) (u : TypeId) (c : Value), zKn[i]? = some u → cs[i]? = some c → ∃ k y, DataW.trod enc Try.prog w base spare held k u [c] = some y ∧ ∀ n ∈ y.1.weights Try.prog u, n ≤ reachBytes := fun i u c hu hc => by
  obtain ⟨k, y, q2, q3⟩ := hf i u c hu hc
  exact ⟨k, y, q2, fun n hn => hw n (q3 n hn)⟩
 have hR : reachBytes = 140737488351232 := by decide
 match cs, hl with
 | [c0, c1, c2, c3, c4], _ =>
  obtain ⟨_, _, h0, w0⟩ := hf 0 _ _ rfl rfl
  obtain ⟨_, _, h1, _⟩ := hf 1 _ _ rfl rfl
  obtain ⟨_, _, h2, _⟩ := hf 2 _ _ rfl rfl
  obtain ⟨_, _, h3, _⟩ := hf 3 _ _ rfl rfl
  obtain ⟨_, _, h4, w4⟩ := hf 4 _ _ rfl rfl
  obtain ⟨x0, rfl, s0⟩ := zFd h0 w0
  obtain ⟨x1, rfl⟩ := zBa h1
  obtain ⟨x2, rfl⟩ := zBa h2
  obtain ⟨x3, rfl⟩ := zBa h3
  obtain ⟨l, q1, q2, q3⟩ := zDn h4 w4
  exact ⟨⟨x0, x1, x2, x3, l⟩, ⟨by show l.length ≤ _; omega, by show x0.size ≤ _; omega, fun s hs => by have := q1 s hs; omega⟩,
   zBd (.plain _ rfl) (zBd (.plain _ rfl) (zBd (.plain _ rfl) (zBd (.plain _ rfl) (zBd q3 zHq))))⟩
theorem zEv {fuel : Nat} {v : Value} {x : DataW H × List MemPlace} (h : DataW.trod enc Try.prog w base spare held fuel 35 [v] = some x) (hw : ∀ n ∈ x.1.weights Try.prog 35, n ≤ reachBytes) :
  ∃ l : List SetX, (∀ s ∈ l, s.fit) ∧ l.length * 64 ≤ reachBytes ∧ DV (fun b => w.heap[b]?) (trT l) v := by
 have := zHx gS 5 zMy (by decide) SetX.fit Try.underlying35 (by kernel_rfl) (fun n cs y hy hw => zOg hy hw) h hw
 rw [bytes_tD] at this
 exact this
end
end Go.Proofs.Ytpigcnpigebfnaa
namespace Go.Proofs.Ytpigcnpigebfnaa
open Go Go.Joins Go.ChangeShapes Go.WideShapes Go.RowKit Go.Deep
structure VerX where
 k : Int
 ch : List SetX
 tg : ByteArray
 st : List SetX
 zn : ByteArray
 sv : SetX
 gl : List SetX
 ttl : Int
def VerX.cs (x : VerX) : List Value := [.int .i64 x.k, trT x.ch, .string x.tg, trT x.st, .string x.zn, .string x.sv.n, .int .i64 x.sv.t, .int .i64 x.sv.c, .int .i64 x.sv.ttl, trS x.sv.d, trT x.gl, .int .i64 x.ttl]
def VerX.v (x : VerX) : Value := .agg #[.int .i64 x.k, trT x.ch, .string x.tg, trT x.st, .string x.zn, .string x.sv.n, .int .i64 x.sv.t, .int .i64 x.sv.c, .int .i64 x.sv.ttl, trS x.sv.d, trT x.gl, .int .i64 x.ttl]
def VerX.fit (x : VerX) : Prop := (x.ch.length ≤ 9000000000000 ∧ ∀ s ∈ x.ch, s.fit) ∧ (x.st.length ≤ 9000000000000 ∧ ∀ s ∈ x.st, s.fit) ∧ x.sv.fit ∧ (x.gl.length ≤ 9000000000000 ∧ ∀ s ∈ x.gl, s.fit)
structure FndX where
 k : Int
 s : SetX
 ttl : Int
structure ActX where
 k : Int
 a : Int
 raw : Bool
 f : FndX
 v : VerX
def ActX.val (x : ActX) : Value := .agg #[.int .i64 x.k, .int .i64 x.a, .bool x.raw, .int .i64 x.f.k, .string x.f.s.n, .int .i64 x.f.s.t, .int .i64 x.f.s.c, .int .i64 x.f.s.ttl, trS x.f.s.d, .int .i64 x.f.ttl, .int .i64 x.v.k, trT x.v.ch, .string x.v.tg, trT x.v.st, .string x.v.zn, .string x.v.sv.n, .int .i64 x.v.sv.t, .int .i64 x.v.sv.c, .int .i64 x.v.sv.ttl, trS x.v.sv.d, trT x.v.gl, .int .i64 x.v.ttl]
def ActX.fit (x : ActX) : Prop := x.f.s.fit ∧ x.v.fit
section
variable {H : Type} {enc : TypeId × Value → H} {w : World} {base : Nat} {spare : Nat → Bool} {held : Bool}
def zHm : List TypeId := [3, 3, 4, 3, 9, 3, 3, 3, 32, 3, 3, 35, 9, 35, 9, 9, 3, 3, 3, 32, 35, 3]
theorem trod_oD {n : Nat} {c : Value} {y : DataW H × List MemPlace} (h : DataW.trod enc Try.prog w base spare held n 4 [c] = some y) : ∃ x : Bool, c = .bool x := by
 obtain ⟨a, e, _⟩ := DataW.trod_bool Try.underlying4 h
 simp only [List.cons.injEq, and_true] at e
 exact ⟨a, e⟩
theorem open_actT25 {r : Reach} {b0 : Nat} {v : Value} {d : DataW H} {p : List MemPlace} (hpos : 0 < w.heap.size) (hv : Value.okWide Try.prog w r b0 66 v) (h : DataW.Trod enc Try.prog w base spare held 66 v d p) (hw : ∀ n ∈ d.weights Try.prog 66, n ≤ reachBytes) :
  ∃ x : ActX, x.fit ∧ VR (Env.all w) x.val v := by
 obtain ⟨cs, rfl, hl, hf⟩ := zOa (ts := zHm) Try.underlying66 (by kernel_rfl) (by kernel_rfl) (by kernel_rfl) hv h
 have h : ∀ (i : Nat) (u : TypeId) (c : Value), zHm[i]? = some u → cs[i]? = some c → ∃ k y, DataW.trod enc Try.prog w base spare held k u [c] = some y ∧ ∀ n ∈ y.1.weights Try.prog u, n ≤ reachBytes := fun i u c hu hc => by
  obtain ⟨_, k, y, q2, q3⟩ := hf i u c hu hc
  exact ⟨k, y, q2, fun n hn => hw n (q3 n hn)⟩
 have hR : reachBytes = 140737488351232 := by decide
 match cs, hl with
 | [c0, c1, c2, c3, c4, c5, c6, c7, c8, c9, c10, c11, c12, c13, c14, c15, c16, c17, c18, c19, c20, c21], _ =>
  obtain ⟨_, _, h0, _⟩ := h 0 _ _ rfl rfl
  obtain ⟨_, _, h1, _⟩ := h 1 _ _ rfl rfl
  obtain ⟨_, _, h2, _⟩ := h 2 _ _ rfl rfl
  obtain ⟨_, _, h3, _⟩ := h 3 _ _ rfl rfl
  obtain ⟨_, _, h4, w4⟩ := h 4 _ _ rfl rfl
  obtain ⟨_, _, h5, _⟩ := h 5 _ _ rfl rfl
  obtain ⟨_, _, h6, _⟩ := h 6 _ _ rfl rfl
  obtain ⟨_, _, h7, _⟩ := h 7 _ _ rfl rfl
  obtain ⟨_, _, h8, w8⟩ := h 8 _ _ rfl rfl
  obtain ⟨_, _, h9, _⟩ := h 9 _ _ rfl rfl
  obtain ⟨_, _, h10, _⟩ := h 10 _ _ rfl rfl
  obtain ⟨_, _, h11, w11⟩ := h 11 _ _ rfl rfl
  obtain ⟨_, _, h12, w12⟩ := h 12 _ _ rfl rfl
  obtain ⟨_, _, h13, w13⟩ := h 13 _ _ rfl rfl
  obtain ⟨_, _, h14, w14⟩ := h 14 _ _ rfl rfl
  obtain ⟨_, _, h15, w15⟩ := h 15 _ _ rfl rfl
  obtain ⟨_, _, h16, _⟩ := h 16 _ _ rfl rfl
  obtain ⟨_, _, h17, _⟩ := h 17 _ _ rfl rfl
  obtain ⟨_, _, h18, _⟩ := h 18 _ _ rfl rfl
  obtain ⟨_, _, h19, w19⟩ := h 19 _ _ rfl rfl
  obtain ⟨_, _, h20, w20⟩ := h 20 _ _ rfl rfl
  obtain ⟨_, _, h21, _⟩ := h 21 _ _ rfl rfl
  obtain ⟨x0, rfl⟩ := zBa h0
  obtain ⟨x1, rfl⟩ := zBa h1
  obtain ⟨x2, rfl⟩ := trod_oD h2
  obtain ⟨x3, rfl⟩ := zBa h3
  obtain ⟨x4, rfl, s4⟩ := zFd h4 w4
  obtain ⟨x5, rfl⟩ := zBa h5
  obtain ⟨x6, rfl⟩ := zBa h6
  obtain ⟨x7, rfl⟩ := zBa h7
  obtain ⟨l8, a8, b8, d8⟩ := zDn h8 w8
  obtain ⟨x9, rfl⟩ := zBa h9
  obtain ⟨x10, rfl⟩ := zBa h10
  obtain ⟨l11, a11, b11, d11⟩ := zEv h11 w11
  obtain ⟨x12, rfl, s12⟩ := zFd h12 w12
  obtain ⟨l13, a13, b13, d13⟩ := zEv h13 w13
  obtain ⟨x14, rfl, s14⟩ := zFd h14 w14
  obtain ⟨x15, rfl, s15⟩ := zFd h15 w15
  obtain ⟨x16, rfl⟩ := zBa h16
  obtain ⟨x17, rfl⟩ := zBa h17
  obtain ⟨x18, rfl⟩ := zBa h18
  obtain ⟨l19, a19, b19, d19⟩ := zDn h19 w19
  obtain ⟨l20, a20, b20, d20⟩ := zEv h20 w20
  obtain ⟨x21, rfl⟩ := zBa h21
  refine ⟨⟨x0, x1, x2, ⟨x3, ⟨x4, x5, x6, x7, l8⟩, x9⟩, ⟨x10, l11, x12, l13, x14, ⟨x15, x16, x17, x18, l19⟩, l20, x21⟩⟩, ⟨⟨by show l8.length ≤ _; omega, by show x4.size ≤ _; omega, fun s hs => by have := a8 s hs; omega⟩, ⟨by show l11.length ≤ _; omega, a11⟩, ⟨by show l13.length ≤ _; omega, a13⟩, ⟨by show l19.length ≤ _; omega, by show x15.size ≤ _; omega, fun s hs => by have := a19 s hs; omega⟩, ⟨by show l20.length ≤ _; omega, a20⟩⟩, ?_⟩
  exact .agg _ _ (.cons _ _ _ _ (.int _ _) (.cons _ _ _ _ (.int _ _) (.cons _ _ _ _ (.bool _) (.cons _ _ _ _ (.int _ _) (.cons _ _ _ _ (.string _) (.cons _ _ _ _ (.int _ _) (.cons _ _ _ _ (.int _ _) (.cons _ _ _ _ (.int _ _) (.cons _ _ _ _ d8.vr (.cons _ _ _ _ (.int _ _) (.cons _ _ _ _ (.int _ _) (.cons _ _ _ _ d11.vr (.cons _ _ _ _ (.string _) (.cons _ _ _ _ d13.vr (.cons _ _ _ _ (.string _) (.cons _ _ _ _ (.string _) (.cons _ _ _ _ (.int _ _) (.cons _ _ _ _ (.int _ _) (.cons _ _ _ _ (.int _ _) (.cons _ _ _ _ d19.vr (.cons _ _ _ _ d20.vr (.cons _ _ _ _ (.int _ _) .nil))))))))))))))))))))))
end
end Go.Proofs.Ytpigcnpigebfnaa
namespace Go.Proofs.Ytpigcnpigebfnaa
open Go Go.RowKit
def bigT (y : Int) (s : ByteArray) : Bool := decide ((s.data.size : Int) > y)
def SetX.bigS (y : Int) (x : SetX) : Bool := x.d.any (bigT y) || (decide ((x.d.length : Int) > 100) || bigT y x.n)
noncomputable def tbNv0 : Tb Try.prog 0 := tbOf mixed []
theorem bigSet_tr (x : SetX) (y : Int) (hx : x.fit) : ∃ r, FnS Try.prog 0 48 [x.v, .int .i64 y] .e 0 r ∧ ∃ H m wr, r = .ret (.bool (x.bigS y)) H m wr := by
 have hl := hx.1
 refine fn_sx mixed tbNv0 [] Try.func48 (c := bodyOf Try.f48) (by kernel_rfl) ?_
 refine zJa (fun (i : Nat) f => ⟨slots 6 [(1, .int .i64 y), (2, .pointer (some ⟨0, 0, none⟩)), (5, .int .i64 (i : Nat))] f, heap 1 [(0, .cells x.cs 34)], 1, [], []⟩) (fun i => x.d.length - i) (fun i => i ≤ x.d.length ∧ x.d.any (bigT y) = (x.d.drop i).any (bigT y)) 0 ⟨Nat.zero_le _, rfl⟩ (rcq [0] ⟨⟨_, rfl, .int _ _⟩, ⟨_, rfl, .ptr _ _ _ rfl⟩, ⟨_, rfl, .int _ _⟩, trivial⟩ ⟨⟨by decide, _, rfl, RO.clos rfl⟩, trivial⟩ .nil) ?_
 rintro i f ⟨hi, hs⟩
 refine zMl tbNv0 [] 0 _ none mixed _ _ _ ?_
 refine ifK (fun h1 => ?_) (fun h1 => ?_)
 ·have h1 : i < x.d.length := by have h1 : ((i : Nat) : Int) < (x.d.length : Int) := of_decide_eq_true h1; omega
  have hst : (x.d.drop i).any (bigT y) = (bigT y x.d[i] || (x.d.drop (i + 1)).any (bigT y)) := by rw [List.drop_eq_getElem_cons h1]; rfl
  rw [hst] at hs
  refine ifK (fun _ => ?_) (fun h2 => absurd h2 (by simp [inI]; omega))
  refine Exists.intro x.d[i] (And.intro (tree_at layS h1) ?_)
  refine ifK (fun h3 => ?_) (fun h3 => ?_)
  ·rw [show x.bigS y = true by unfold SetX.bigS; rw [hs, show bigT y x.d[i] = true from h3]; rfl]
   exact And.intro rfl (zHy (rcq [] (d := 6) (d2 := 0) (lv := [(4, .bool true)]) (bs := []) (W := []) (m := 0) (df := []) ⟨⟨_, rfl, zEf 8 rfl⟩, trivial⟩ trivial .nil) (fun f => ⟨_, _, _, rfl⟩))
  ·rw [show bigT y x.d[i] = false from h3, Bool.false_or] at hs
   exact ⟨i + 1, ⟨h1, hs⟩, by show x.d.length - (i + 1) < x.d.length - i; omega, rcq [0] ⟨⟨_, rfl, .int _ _⟩, ⟨_, rfl, .ptr _ _ _ rfl⟩, zJj rfl (by rw [wrapN (by omega) (by omega)]; omega), trivial⟩ ⟨⟨by decide, _, rfl, RO.clos rfl⟩, trivial⟩ .nil⟩
 ·have h1 : ¬ i < x.d.length := by have h1 : ¬ ((i : Nat) : Int) < (x.d.length : Int) := of_decide_eq_false h1; omega
  have hs : x.d.any (bigT y) = false := by rw [hs, List.drop_eq_nil_of_le (by omega)]; rfl
  refine And.intro rfl (zHy (rcq [0] (d := 6) (d2 := 1) (lv := [(1, .int .i64 y), (2, .pointer (some ⟨0, 0, none⟩))]) (bs := [(0, .cells x.cs 34)]) (W := []) (m := 1) (df := []) ⟨⟨_, rfl, .int _ _⟩, ⟨_, rfl, .ptr _ _ _ rfl⟩, trivial⟩ ⟨⟨by decide, _, rfl, RO.clos rfl⟩, trivial⟩ .nil) (fun f => ?_))
  refine ifK (fun h3 => ?_) (fun h3 => ?_)
  ·rw [show x.bigS y = true by unfold SetX.bigS; rw [hs, show decide ((x.d.length : Int) > 100) = true from h3]; rfl]
   exact ⟨_, _, _, rfl⟩
  ·rw [show x.bigS y = bigT y x.n by unfold SetX.bigS; rw [hs, show decide ((x.d.length : Int) > 100) = false from h3]; rfl]
   exact ⟨_, _, _, rfl⟩
noncomputable def zHr : Ct Try.prog 0 := CtR.tree 48 (SetX × Int) (fun x => [x.1.v, .int .i64 x.2]) (fun x => x.1.fit) (fun x => .bool (x.1.bigS x.2)) (fun a b h => by simp only [List.cons.injEq, Value.int.injEq, true_and, and_true] at h; exact Prod.ext (SetX.v_inj h.1) h.2) (fun _ => rfl)
 (fun x hx => by obtain ⟨r, hF, H, m, wr, rfl⟩ := bigSet_tr x.1 x.2 hx; exact ⟨_, _, _, _, hF, .one _ _ (.plain _ rfl)⟩)
def VerX.bigV (y : Int) (v : VerX) : Bool := decide ((v.ch.length : Int) > 20) || (decide ((v.st.length : Int) > 20) || (decide ((v.gl.length : Int) > 20) || (bigT y v.tg || (bigT y v.zn || (v.sv.bigS y || (v.ch.any (SetX.bigS y) || v.st.any (SetX.bigS y)))))))
noncomputable def tbNv1 : Tb Try.prog 0 := tbOf mixed [zHr]
theorem bigV_tr (v : VerX) (y : Int) (hv : v.fit) : ∃ r, FnS Try.prog 0 47 [v.v, .int .i64 y] .e 0 r ∧ ∃ H m wr, r = .ret (.bool (v.bigV y)) H m wr := by
 obtain ⟨⟨c1, c2⟩, ⟨s1, s2⟩, sv, g1, g2⟩ := hv
 refine fn_sx mixed tbNv1 [] Try.func47 (c := bodyOf Try.f47) (by kernel_rfl) ?_
 refine ifK (fun h1 => ?_) (fun h1 => ?_)
 ·rw [show v.bigV y = true by unfold VerX.bigV; rw [show decide ((v.ch.length : Int) > 20) = true from h1]; rfl]
  exact ⟨_, _, _, rfl⟩
 refine ifK (fun h2 => ?_) (fun h2 => ?_)
 ·rw [show v.bigV y = true by unfold VerX.bigV; rw [show decide ((v.ch.length : Int) > 20) = false from h1, show decide ((v.st.length : Int) > 20) = true from h2]; rfl]
  exact ⟨_, _, _, rfl⟩
 refine ifK (fun h3 => ?_) (fun h3 => ?_)
 ·rw [show v.bigV y = true by unfold VerX.bigV; rw [show decide ((v.ch.length : Int) > 20) = false from h1, show decide ((v.st.length : Int) > 20) = false from h2, show decide ((v.gl.length : Int) > 20) = true from h3]; rfl]
  exact ⟨_, _, _, rfl⟩
 refine ifK (fun h4 => ?_) (fun h4 => ?_)
 ·rw [show v.bigV y = true by unfold VerX.bigV; rw [show decide ((v.ch.length : Int) > 20) = false from h1, show decide ((v.st.length : Int) > 20) = false from h2, show decide ((v.gl.length : Int) > 20) = false from h3, show bigT y v.tg = true from h4]; rfl]
  exact ⟨_, _, _, rfl⟩
 refine ifK (fun h5 => ?_) (fun h5 => ?_)
 ·rw [show v.bigV y = true by unfold VerX.bigV; rw [show decide ((v.ch.length : Int) > 20) = false from h1, show decide ((v.st.length : Int) > 20) = false from h2, show decide ((v.gl.length : Int) > 20) = false from h3, show bigT y v.tg = false from h4, show bigT y v.zn = true from h5]; rfl]
  exact ⟨_, _, _, rfl⟩
 refine Exists.intro (v.sv, y) (And.intro ⟨rfl, sv⟩ ?_)
 refine ifK (fun h6 => ?_) (fun h6 => ?_)
 ·rw [show v.bigV y = true by unfold VerX.bigV; rw [show decide ((v.ch.length : Int) > 20) = false from h1, show decide ((v.st.length : Int) > 20) = false from h2, show decide ((v.gl.length : Int) > 20) = false from h3, show bigT y v.tg = false from h4, show bigT y v.zn = false from h5, show v.sv.bigS y = true from h6]; rfl]
  exact ⟨_, _, _, rfl⟩
 have hb : v.bigV y = (v.ch.any (SetX.bigS y) || v.st.any (SetX.bigS y)) := by unfold VerX.bigV; rw [show decide ((v.ch.length : Int) > 20) = false from h1, show decide ((v.st.length : Int) > 20) = false from h2, show decide ((v.gl.length : Int) > 20) = false from h3, show bigT y v.tg = false from h4, show bigT y v.zn = false from h5, show v.sv.bigS y = false from h6]; rfl
 rw [hb]
 refine zJa (fun (i : Nat) f => ⟨slots 7 [(1, .int .i64 y), (2, .pointer (some ⟨0, 0, none⟩)), (5, .int .i64 (i : Nat))] f, heap 1 [(0, .cells v.cs 37)], 1, [], []⟩) (fun i => v.ch.length - i) (fun i => i ≤ v.ch.length ∧ v.ch.any (SetX.bigS y) = (v.ch.drop i).any (SetX.bigS y)) 0 ⟨Nat.zero_le _, rfl⟩ (rcq [0] ⟨⟨_, rfl, .int _ _⟩, ⟨_, rfl, .ptr _ _ _ rfl⟩, ⟨_, rfl, .int _ _⟩, trivial⟩ ⟨⟨by decide, _, rfl, RO.clos rfl⟩, trivial⟩ .nil) ?_
 rintro i f ⟨hi, hs⟩
 refine zMl tbNv1 [] 0 _ none mixed _ _ _ ?_
 refine ifK (fun h1 => ?_) (fun h1 => ?_)
 ·have h1 : i < v.ch.length := by have h1 : ((i : Nat) : Int) < (v.ch.length : Int) := of_decide_eq_true h1; omega
  have hst : (v.ch.drop i).any (SetX.bigS y) = (v.ch[i].bigS y || (v.ch.drop (i + 1)).any (SetX.bigS y)) := by rw [List.drop_eq_getElem_cons h1]; rfl
  rw [hst] at hs
  refine ifK (fun _ => ?_) (fun h2 => absurd h2 (by simp [inI]; omega))
  refine Exists.intro v.ch[i].n (Exists.intro v.ch[i].t (Exists.intro v.ch[i].c (Exists.intro v.ch[i].ttl (Exists.intro (trS v.ch[i].d) (And.intro (zNi h1) ?_)))))
  refine Exists.intro (v.ch[i], y) (And.intro ⟨rfl, c2 _ (List.getElem_mem h1)⟩ ?_)
  refine ifK (fun h3 => ?_) (fun h3 => ?_)
  ·rw [hs, show v.ch[i].bigS y = true from h3, Bool.true_or, Bool.true_or]
   exact And.intro rfl (zHy (rcq [] (d := 7) (d2 := 0) (lv := [(4, .bool true)]) (bs := []) (W := []) (m := 0) (df := []) ⟨⟨_, rfl, zEf 8 rfl⟩, trivial⟩ trivial .nil) (fun f => ⟨_, _, _, rfl⟩))
  ·rw [show v.ch[i].bigS y = false from h3, Bool.false_or] at hs
   exact ⟨i + 1, ⟨h1, hs⟩, by show v.ch.length - (i + 1) < v.ch.length - i; omega, rcq [0] ⟨⟨_, rfl, .int _ _⟩, ⟨_, rfl, .ptr _ _ _ rfl⟩, zJj rfl (by rw [wrapN (by omega) (by omega)]; omega), trivial⟩ ⟨⟨by decide, _, rfl, RO.clos rfl⟩, trivial⟩ .nil⟩
 have h1 : ¬ i < v.ch.length := by have h1 : ¬ ((i : Nat) : Int) < (v.ch.length : Int) := of_decide_eq_false h1; omega
 rw [hs, List.drop_eq_nil_of_le (by omega), List.any_nil, Bool.false_or]
 refine And.intro rfl (zHy (rcq [0] (d := 7) (d2 := 1) (lv := [(1, .int .i64 y), (2, .pointer (some ⟨0, 0, none⟩))]) (bs := [(0, .cells v.cs 37)]) (W := []) (m := 1) (df := []) ⟨⟨_, rfl, .int _ _⟩, ⟨_, rfl, .ptr _ _ _ rfl⟩, trivial⟩ ⟨⟨by decide, _, rfl, RO.clos rfl⟩, trivial⟩ .nil) (fun f => ?_))
 refine zJa (fun (i : Nat) f => ⟨slots 7 [(1, .int .i64 y), (2, .pointer (some ⟨0, 0, none⟩)), (6, .int .i64 (i : Nat))] f, heap 1 [(0, .cells v.cs 37)], 1, [], []⟩) (fun i => v.st.length - i) (fun i => i ≤ v.st.length ∧ v.st.any (SetX.bigS y) = (v.st.drop i).any (SetX.bigS y)) 0 ⟨Nat.zero_le _, rfl⟩ (rcq [0] ⟨⟨_, rfl, .int _ _⟩, ⟨_, rfl, .ptr _ _ _ rfl⟩, ⟨_, rfl, .int _ _⟩, trivial⟩ ⟨⟨by decide, _, rfl, RO.clos rfl⟩, trivial⟩ .nil) ?_
 clear hi hs h1 f
 rintro i f ⟨hi, hs⟩
 refine zMl tbNv1 [] 0 _ none mixed _ _ _ ?_
 refine ifK (fun h1 => ?_) (fun h1 => ?_)
 ·have h1 : i < v.st.length := by have h1 : ((i : Nat) : Int) < (v.st.length : Int) := of_decide_eq_true h1; omega
  have hst : (v.st.drop i).any (SetX.bigS y) = (v.st[i].bigS y || (v.st.drop (i + 1)).any (SetX.bigS y)) := by rw [List.drop_eq_getElem_cons h1]; rfl
  rw [hst] at hs
  refine ifK (fun _ => ?_) (fun h2 => absurd h2 (by simp [inI]; omega))
  refine Exists.intro v.st[i].n (Exists.intro v.st[i].t (Exists.intro v.st[i].c (Exists.intro v.st[i].ttl (Exists.intro (trS v.st[i].d) (And.intro (zNi h1) ?_)))))
  refine Exists.intro (v.st[i], y) (And.intro ⟨rfl, s2 _ (List.getElem_mem h1)⟩ ?_)
  refine ifK (fun h3 => ?_) (fun h3 => ?_)
  ·rw [hs, show v.st[i].bigS y = true from h3, Bool.true_or]
   exact And.intro rfl (zHy (rcq [] (d := 7) (d2 := 0) (lv := [(4, .bool true)]) (bs := []) (W := []) (m := 0) (df := []) ⟨⟨_, rfl, zEf 8 rfl⟩, trivial⟩ trivial .nil) (fun f => ⟨_, _, _, rfl⟩))
  ·rw [show v.st[i].bigS y = false from h3, Bool.false_or] at hs
   exact ⟨i + 1, ⟨h1, hs⟩, by show v.st.length - (i + 1) < v.st.length - i; omega, rcq [0] ⟨⟨_, rfl, .int _ _⟩, ⟨_, rfl, .ptr _ _ _ rfl⟩, zJj rfl (by rw [wrapN (by omega) (by omega)]; omega), trivial⟩ ⟨⟨by decide, _, rfl, RO.clos rfl⟩, trivial⟩ .nil⟩
 have h1 : ¬ i < v.st.length := by have h1 : ¬ ((i : Nat) : Int) < (v.st.length : Int) := of_decide_eq_false h1; omega
 rw [hs, List.drop_eq_nil_of_le (by omega), List.any_nil]
 exact And.intro rfl (zHy (rcq [] (d := 7) (d2 := 0) (lv := []) (bs := []) (W := []) (m := 0) (df := []) trivial trivial .nil) (fun f => ⟨_, _, _, rfl⟩))
theorem zFo : ∀ {a b : List SetX}, a.flatMap gS = b.flatMap gS → a = b
 | [], [], _ => rfl
 | [], y :: b, h => by simp [gS, SetX.cs] at h
 | x :: a, [], h => by simp [gS, SetX.cs] at h
 | x :: a, y :: b, h => by
  rw [List.flatMap_cons, List.flatMap_cons] at h
  obtain ⟨h1, h2⟩ := List.append_inj h (by rw [zMy, zMy])
  have e : x.v = y.v := congrArg (fun l => Value.agg ⟨l⟩) h1
  rw [SetX.v_inj e, zFo h2]
theorem zJn {a b : List SetX} (h : trT a = trT b) : a = b := by
 simp only [trT, treeV, Value.func.injEq, Fn.via.injEq, Array.mk.injEq, true_and, and_true] at h
 exact zFo h.2
theorem VerX.v_inj {a b : VerX} (h : a.v = b.v) : a = b := by
 obtain ⟨k, ch, tg, st, zn, ⟨n, t, c, l, d⟩, gl, ttl⟩ := a
 obtain ⟨k', ch', tg', st', zn', ⟨n', t', c', l', d'⟩, gl', ttl'⟩ := b
 simp only [VerX.v, Value.agg.injEq, Array.mk.injEq, List.cons.injEq, Value.int.injEq, Value.string.injEq, true_and, and_true] at h
 obtain ⟨rfl, h1, rfl, h2, rfl, rfl, rfl, rfl, rfl, h3, h4, rfl⟩ := h
 have h1 := zJn h1
 have h2 := zJn h2
 have h3 := zKq layS h3
 have h4 := zJn h4
 subst h1 h2 h3 h4
 rfl
noncomputable def zNp : Ct Try.prog 0 := CtR.tree 47 (VerX × Int) (fun x => [x.1.v, .int .i64 x.2]) (fun x => x.1.fit) (fun x => .bool (x.1.bigV x.2)) (fun a b h => by simp only [List.cons.injEq, Value.int.injEq, true_and, and_true] at h; exact Prod.ext (VerX.v_inj h.1) h.2) (fun _ => rfl)
 (fun x hx => by obtain ⟨r, hF, H, m, wr, rfl⟩ := bigV_tr x.1 x.2 hx; exact ⟨_, _, _, _, hF, .one _ _ (.plain _ rfl)⟩)
end Go.Proofs.Ytpigcnpigebfnaa
namespace Go.Proofs.Ytpigcnpigebfnaa
open Go Go.RowKit
noncomputable def zBt : Ct Try.prog 0 := Ct.inl (tbOf mixed []) mixed [] 37 Try.f37 Try.func37 (bodyOf Try.f37) (by kernel_rfl)
noncomputable def inl_tlong : Ct Try.prog 0 := Ct.inl (tbOf mixed [zNp, zHr]) mixed [] 29 Try.f29 Try.func29 (bodyOf Try.f29) (by kernel_rfl)
noncomputable def zHu : Ct Try.prog 0 := Ct.inl (tbOf mixed [zBt]) mixed [] 34 Try.f34 Try.func34 (bodyOf Try.f34) (by kernel_rfl)
noncomputable def zNv : Ct Try.prog 0 := Ct.inl (tbOf mixed [zBt]) mixed [] 14 Try.f14 Try.func14 (bodyOf Try.f14) (by kernel_rfl)
noncomputable def inl_ttold : Ct Try.prog 0 := Ct.inl (tbOf mixed [zHu]) mixed [] 11 Try.f11 Try.func11 (bodyOf Try.f11) (by kernel_rfl)
noncomputable def zLp : Ct Try.prog 0 := Ct.inl (tbOf mixed [zHu]) mixed [] 20 Try.f20 Try.func20 (bodyOf Try.f20) (by kernel_rfl)
noncomputable def zNw : Ct Try.prog 0 := Ct.inl (tbOf mixed [zBt]) mixed [] 28 Try.f28 Try.func28 (bodyOf Try.f28) (by kernel_rfl)
noncomputable def inl_tleft : Ct Try.prog 0 := Ct.inl (tbOf mixed [zBt]) mixed [] 30 Try.f30 Try.func30 (bodyOf Try.f30) (by kernel_rfl)
noncomputable def zNu : Ct Try.prog 0 := Ct.inl (tbOf mixed [zBt]) mixed [] 13 Try.f13 Try.func13 (bodyOf Try.f13) (by kernel_rfl)
noncomputable def zNx : Ct Try.prog 0 := Ct.inl (tbOf mixed [zBt]) mixed [] 19 Try.f19 Try.func19 (bodyOf Try.f19) (by kernel_rfl)
noncomputable def zIw : Ct Try.prog 0 := Ct.inl (tbOf mixed []) mixed [] 41 Try.f41 Try.func41 (bodyOf Try.f41) (by kernel_rfl)
noncomputable def zIx : Ct Try.prog 0 := Ct.inl (tbOf mixed []) mixed [] 43 Try.f43 Try.func43 (bodyOf Try.f43) (by kernel_rfl)
noncomputable def zKb : Ct Try.prog 0 := Ct.inl (tbOf mixed [zIx]) mixed [] 25 Try.f25 Try.func25 (bodyOf Try.f25) (by kernel_rfl)
noncomputable def zIy : Ct Try.prog 0 := Ct.inl (tbOf mixed [zIw, zKb]) mixed [] 18 Try.f18 Try.func18 (bodyOf Try.f18) (by kernel_rfl)
noncomputable def tbNv2 : Tb Try.prog 0 := tbOf mixed [inl_tlong, Ct.yes 21 zIn, zNv, inl_ttold, zLp, zNw, inl_tleft, zNu, zNx, zIy]
theorem tnone_fn (x : ActX) (hx : x.fit) : ∃ r, FnS Try.prog 0 5 [x.val] .e 0 r ∧ ∃ H k wr, r = .ret (.bool true) H k wr := by
 obtain ⟨k, a, raw, ⟨fk, ⟨fn, ft, fc, fl, fd⟩, fttl⟩, ⟨vk, ch, tg, st, zn, ⟨sn, st2, sc, sl, sd⟩, gl, vttl⟩⟩ := x
 refine fn_sx mixed tbNv2 [] Try.func5 (c := bodyOf Try.f5) (by kernel_rfl) ?_
 refine Exists.intro (⟨vk, ch, tg, st, zn, ⟨sn, st2, sc, sl, sd⟩, gl, vttl⟩, 1000) (And.intro ⟨rfl, hx.2⟩ ?_)
 refine ifK (fun _ => ⟨_, _, _, rfl⟩) (fun _ => ?_)
 refine Exists.intro (⟨fn, ft, fc, fl, fd⟩, 1000) (And.intro ⟨rfl, hx.1⟩ ?_)
 refine ifK (fun _ => ⟨_, _, _, rfl⟩) (fun _ => ?_)
 refine LW.round ?_
 refine zMl tbNv2 [] 0 _ none mixed _ _ _ ?_
 refine LW.round ?_
 refine zMl tbNv2 [] 0 _ none mixed _ _ _ ?_
 refine LW.round ?_
 refine zMl tbNv2 [] 0 _ none mixed _ _ _ ?_
 exact ⟨_, _, _, rfl⟩
end Go.Proofs.Ytpigcnpigebfnaa
